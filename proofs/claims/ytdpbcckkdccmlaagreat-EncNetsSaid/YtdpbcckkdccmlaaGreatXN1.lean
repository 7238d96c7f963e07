/-
  Proved: enc's formulas of nets.
  Part 1 of 10. Conditions: none. A verified frame that runs compiled texts over a ghost heap, the contracts of the functions that the statement reaches, and the plain law.
-/
import Derived.OrdersIn
import Derived.RangeFuncLeaves
import Derived.Below
import Derived.Laws.Entries
import Derived.Laws.CopyOwn
import Derived.Laws.Append
namespace Go.Gh
open Go.RowKit
set_option linter.unusedVariables false
set_option linter.unusedSimpArgs false

/-- A value as the ghost run holds it: addresses are numbers of ghost objects. -/
inductive DV where
  | any
  | bool (b : Bool)
  | int (k : IntKind) (n : Int)
  | str (s : ByteArray)
  | nilp
  | ptr (id off : Nat)
  | nils
  | slice (id off len sz : Nat) (cap : Option Nat)
  | nilmap
  | map (id : Nat)
  | nilf
  | func (f : FuncId) (first caps : List DV)
  | yield (id : Nat)
  | agg (cs : List DV)
  | tuple (vs : List DV)
  /-- A slice that nobody writes any more: its elements' cells. -/
  | fsl (sz : Nat) (es : List (List DV))
  /-- A pointer to cells that nobody writes any more. -/
  | fptr (cs : List DV)

structure Loc where
  blk : Nat
  off : Nat
  ext : Nat

/-- Where ghost objects lie, and what nobody writes any more. -/
structure Ren where
  f : Nat → Option Loc
  fz : Nat → Nat → Option Value
instance : CoeFun Ren fun _ => Nat → Option Loc := ⟨Ren.f⟩

mutual
def VR (ρ : Ren) : DV → Value → Prop
  | .any, _ => True
  | .bool b, v => v = .bool b
  | .int k n, v => v = .int k n
  | .str s, v => v = .string s
  | .nilp, v => v = .pointer none
  | .ptr id off, v => ∃ L, ρ id = some L ∧ v = .pointer (some ⟨L.blk, L.off + off, none⟩)
  | .nils, v => v = .slice none 0 0
  | .slice id off len sz cap, v => ∃ L a c, ρ id = some L ∧ v = .slice a len c ∧ len ≤ c ∧ (c ≠ 0 → a = some ⟨L.blk, L.off + off, none⟩) ∧ (∀ c', cap = some c' → c = c') ∧ off + c * sz ≤ L.ext
  | .nilmap, v => v = .map none
  | .map id, v => ∃ L, ρ id = some L ∧ v = .map (some L.blk)
  | .nilf, v => v = .nilFunc
  | .func f first caps, v => ∃ a b, VRs ρ first a ∧ VRs ρ caps b ∧ v = .func (.func f) a.toArray b.toArray
  | .yield id, v => ∃ L, ρ id = some L ∧ v = .func (.yield L.blk) #[] #[]
  | .agg cs, v => ∃ a, VRs ρ cs a ∧ v = .agg a.toArray
  | .tuple cs, v => ∃ a, VRs ρ cs a ∧ v = .tuple a.toArray
  | .fsl sz es, v => ∃ (b o c : Nat) (a : Option Addr) (vs : List Value), v = .slice a es.length c ∧ es.length ≤ c ∧ (c ≠ 0 → a = some ⟨b, o, none⟩) ∧ VRss ρ sz es vs ∧ ∀ (k : Nat) (x : Value), vs[k]? = some x → ρ.fz b (o + k) = some x
  | .fptr cs, v => ∃ (b o : Nat) (vs : List Value), v = .pointer (some ⟨b, o, none⟩) ∧ VRs ρ cs vs ∧ ∀ (k : Nat) (x : Value), vs[k]? = some x → ρ.fz b (o + k) = some x
def VRs (ρ : Ren) : List DV → List Value → Prop
  | [], l => l = []
  | c :: cs, l => ∃ v l', l = v :: l' ∧ VR ρ c v ∧ VRs ρ cs l'
def VRss (ρ : Ren) (sz : Nat) : List (List DV) → List Value → Prop
  | [], l => l = []
  | e :: es, l => ∃ v l', l = v ++ l' ∧ e.length = sz ∧ VRs ρ e v ∧ VRss ρ sz es l'
end
structure Ren.le (ρ ρ' : Ren) : Prop where
  at_ : ∀ id L, ρ id = some L → ρ' id = some L
  fz : ∀ b o v, ρ.fz b o = some v → ρ'.fz b o = some v

mutual
theorem VR.mono {ρ ρ' : Ren} (h : ρ.le ρ') : ∀ (d : DV) (v : Value), VR ρ d v → VR ρ' d v
  | .any, _, _ => by simp [VR]
  | .bool _, _, hv => by simpa [VR] using hv
  | .int _ _, _, hv => by simpa [VR] using hv
  | .str _, _, hv => by simpa [VR] using hv
  | .nilp, _, hv => by simpa [VR] using hv
  | .ptr _ _, _, hv => by
    simp only [VR] at hv ⊢
    obtain ⟨L, h1, h2⟩ := hv
    exact ⟨L, h.at_ _ _ h1, h2⟩
  | .nils, _, hv => by simpa [VR] using hv
  | .slice .., _, hv => by
    simp only [VR] at hv ⊢
    obtain ⟨L, a, c, h1, h2⟩ := hv
    exact ⟨L, a, c, h.at_ _ _ h1, h2⟩
  | .nilmap, _, hv => by simpa [VR] using hv
  | .map _, _, hv => by
    simp only [VR] at hv ⊢
    obtain ⟨L, h1, h2⟩ := hv
    exact ⟨L, h.at_ _ _ h1, h2⟩
  | .nilf, _, hv => by simpa [VR] using hv
  | .func _ x y, _, hv => by
    simp only [VR] at hv ⊢
    obtain ⟨a, b, h1, h2, h3⟩ := hv
    exact ⟨a, b, VRs.mono h x a h1, VRs.mono h y b h2, h3⟩
  | .yield _, _, hv => by
    simp only [VR] at hv ⊢
    obtain ⟨L, h1, h2⟩ := hv
    exact ⟨L, h.at_ _ _ h1, h2⟩
  | .agg cs, _, hv => by
    simp only [VR] at hv ⊢
    obtain ⟨a, h1, h2⟩ := hv
    exact ⟨a, VRs.mono h cs a h1, h2⟩
  | .tuple cs, _, hv => by
    simp only [VR] at hv ⊢
    obtain ⟨a, h1, h2⟩ := hv
    exact ⟨a, VRs.mono h cs a h1, h2⟩
  | .fsl sz es, _, hv => by
    simp only [VR] at hv ⊢
    obtain ⟨b, o, c, a, vs, h1, h2, h3, h4, h5⟩ := hv
    exact ⟨b, o, c, a, vs, h1, h2, h3, VRss.mono h sz es vs h4, fun k x hx => h.fz _ _ _ (h5 k x hx)⟩
  | .fptr cs, _, hv => by
    simp only [VR] at hv ⊢
    obtain ⟨b, o, vs, h1, h2, h3⟩ := hv
    exact ⟨b, o, vs, h1, VRs.mono h cs vs h2, fun k x hx => h.fz _ _ _ (h3 k x hx)⟩
theorem VRs.mono {ρ ρ' : Ren} (h : ρ.le ρ') : ∀ (d : List DV) (v : List Value), VRs ρ d v → VRs ρ' d v
  | [], _, hv => by simpa [VRs] using hv
  | c :: cs, _, hv => by
    simp only [VRs] at hv ⊢
    obtain ⟨v, l, h1, h2, h3⟩ := hv
    exact ⟨v, l, h1, VR.mono h c v h2, VRs.mono h cs l h3⟩
theorem VRss.mono {ρ ρ' : Ren} (h : ρ.le ρ') : ∀ (sz : Nat) (d : List (List DV)) (v : List Value), VRss ρ sz d v → VRss ρ' sz d v
  | sz, [], _, hv => by simpa [VRss] using hv
  | sz, e :: es, _, hv => by
    simp only [VRss] at hv ⊢
    obtain ⟨v, l, h1, h2, h3, h4⟩ := hv
    exact ⟨v, l, h1, h2, VRs.mono h e v h3, VRss.mono h sz es l h4⟩
end
section lists
variable {ρ : Ren}
theorem VRs.length : ∀ {d : List DV} {v : List Value}, VRs ρ d v → v.length = d.length
  | [], _, h => by simp only [VRs] at h; subst h; rfl
  | c :: cs, _, h => by simp only [VRs] at h; obtain ⟨v, l, rfl, _, h3⟩ := h; simp [VRs.length h3]
theorem VRs.get : ∀ {d : List DV} {v : List Value}, VRs ρ d v → ∀ {i : Nat} {x : DV}, d[i]? = some x → ∃ y, v[i]? = some y ∧ VR ρ x y
  | [], _, h, i, x, hx => by simp at hx
  | c :: cs, _, h, i, x, hx => by
    simp only [VRs] at h
    obtain ⟨v, l, rfl, h2, h3⟩ := h
    cases i with
    | zero => simp at hx; subst hx; exact ⟨v, rfl, h2⟩
    | succ i => simp at hx; simpa using VRs.get h3 hx
theorem VRs.mk : ∀ {d : List DV} {v : List Value}, v.length = d.length → (∀ (i : Nat) (x : DV), d[i]? = some x → ∃ y, v[i]? = some y ∧ VR ρ x y) → VRs ρ d v
  | [], v, hl, _ => by simp only [VRs]; exact List.length_eq_zero_iff.1 hl
  | c :: cs, [], hl, _ => by simp at hl
  | c :: cs, v :: vs, hl, h => by
    simp only [VRs]
    refine ⟨v, vs, rfl, ?_, VRs.mk (by simpa using hl) fun i x hx => ?_⟩
    · obtain ⟨y, hy, hr⟩ := h 0 c rfl
      simp at hy; subst hy; exact hr
    · simpa using h (i + 1) x (by simpa using hx)
theorem VRs.set {d : List DV} {v : List Value} (h : VRs ρ d v) {x : DV} {y : Value} (hxy : VR ρ x y) (i : Nat) : VRs ρ (d.set i x) (v.set i y) := by
  have hl := h.length
  refine VRs.mk (by simp [hl]) fun j z hz => ?_
  rw [List.getElem?_set] at hz ⊢
  by_cases hij : i = j
  · subst hij
    simp only [if_true] at hz ⊢
    by_cases hi : i < d.length
    · simp [hi] at hz; subst hz
      exact ⟨y, by simp [hl, hi], hxy⟩
    · simp [hi] at hz
  · simp only [hij, if_false] at hz ⊢
    exact h.get hz
theorem VRs.append {d e : List DV} {v u : List Value} (h : VRs ρ d v) (k : VRs ρ e u) : VRs ρ (d ++ e) (v ++ u) := by
  have hl := h.length
  refine VRs.mk (by simp [hl, k.length]) fun j z hz => ?_
  by_cases hj : j < d.length
  · rw [List.getElem?_append_left hj] at hz
    rw [List.getElem?_append_left (by omega)]
    exact h.get hz
  · rw [List.getElem?_append_right (by omega)] at hz
    rw [List.getElem?_append_right (by omega), hl]
    exact k.get hz
theorem VRs.take {d : List DV} {v : List Value} (h : VRs ρ d v) (n : Nat) : VRs ρ (d.take n) (v.take n) := by
  refine VRs.mk (by simp [h.length]) fun j z hz => ?_
  rw [List.getElem?_take] at hz ⊢
  split at hz
  · rename_i hj; simp only [hj, if_true]; exact h.get hz
  · cases hz
theorem VRs.drop {d : List DV} {v : List Value} (h : VRs ρ d v) (n : Nat) : VRs ρ (d.drop n) (v.drop n) := by
  refine VRs.mk (by simp [h.length]) fun j z hz => ?_
  rw [List.getElem?_drop] at hz ⊢
  exact h.get hz
theorem VRs.nil : VRs ρ [] [] := by simp [VRs]
theorem VRs.cons {x : DV} {y : Value} {d : List DV} {v : List Value} (h : VR ρ x y) (k : VRs ρ d v) : VRs ρ (x :: d) (y :: v) := by simp only [VRs]; exact ⟨y, v, rfl, h, k⟩
theorem VRs.replicate {x : DV} {y : Value} (h : VR ρ x y) : ∀ n, VRs ρ (List.replicate n x) (List.replicate n y)
  | 0 => VRs.nil
  | n + 1 => VRs.cons h (VRs.replicate h n)
/-- Elements read as their cells one behind the other. -/
theorem VRss.flat {sz : Nat} : ∀ {es : List (List DV)} {v : List Value}, VRss ρ sz es v → VRs ρ es.flatten v ∧ ∀ e ∈ es, e.length = sz
  | [], _, h => by simp only [VRss] at h; subst h; exact ⟨VRs.nil, fun e he => by cases he⟩
  | e :: es, _, h => by
    simp only [VRss] at h
    obtain ⟨v, l, rfl, h2, h3, h4⟩ := h
    obtain ⟨h5, h6⟩ := VRss.flat h4
    refine ⟨by simpa using h3.append h5, fun x hx => ?_⟩
    rcases List.mem_cons.1 hx with rfl | hx
    · exact h2
    · exact h6 x hx
theorem VRss.of {sz : Nat} : ∀ {es : List (List DV)} {v : List Value}, VRs ρ es.flatten v → (∀ e ∈ es, e.length = sz) → VRss ρ sz es v
  | [], _, h, _ => by simpa [VRss, VRs] using h
  | e :: es, v, h, k => by
    simp only [VRss]
    simp only [List.flatten_cons] at h
    have hl := h.length
    have h1 := h.take e.length
    have h2 := h.drop e.length
    rw [List.take_left] at h1
    rw [List.drop_left] at h2
    exact ⟨_, _, (List.take_append_drop e.length v).symm, k e (by simp), h1, VRss.of h2 fun x hx => k x (by simp [hx])⟩
theorem flatten_take_drop {sz : Nat} : ∀ {es : List (List DV)}, (∀ e ∈ es, e.length = sz) → ∀ {i : Nat} {e : List DV}, es[i]? = some e → (es.flatten.drop (i * sz)).take sz = e
  | [], _, i, e, h => by simp at h
  | x :: es, k, 0, e, h => by
    simp at h; subst h
    have := k x (by simp)
    simp [← this]
  | x :: es, k, i + 1, e, h => by
    have hx := k x (by simp)
    simp only [List.getElem?_cons_succ] at h
    have k' : ∀ y ∈ es, y.length = sz := fun y hy => k y (by simp [hy])
    have := flatten_take_drop k' h
    simp only [List.flatten_cons, Nat.add_mul, Nat.one_mul]
    rw [show i * sz + sz = x.length + i * sz by omega, List.drop_append, List.drop_eq_nil_of_le (show x.length ≤ x.length + i * sz by omega)]
    simpa using this
theorem flatten_drop {sz : Nat} : ∀ {es : List (List DV)}, (∀ e ∈ es, e.length = sz) → ∀ (i : Nat), (es.drop i).flatten = es.flatten.drop (i * sz)
  | [], _, i => by simp
  | x :: es, k, 0 => by simp
  | x :: es, k, i + 1 => by
    have hx := k x (by simp)
    have k' : ∀ y ∈ es, y.length = sz := fun y hy => k y (by simp [hy])
    have := flatten_drop k' i
    simp only [List.drop_succ_cons, List.flatten_cons, Nat.add_mul, Nat.one_mul]
    rw [show i * sz + sz = x.length + i * sz by omega, List.drop_append, List.drop_eq_nil_of_le (show x.length ≤ x.length + i * sz by omega)]
    simpa using this
theorem flatten_take {sz : Nat} : ∀ {es : List (List DV)}, (∀ e ∈ es, e.length = sz) → ∀ (i : Nat), (es.take i).flatten = es.flatten.take (i * sz)
  | [], _, i => by simp
  | x :: es, k, 0 => by simp
  | x :: es, k, i + 1 => by
    have hx := k x (by simp)
    have k' : ∀ y ∈ es, y.length = sz := fun y hy => k y (by simp [hy])
    have := flatten_take k' i
    simp only [List.take_succ_cons, List.flatten_cons, Nat.add_mul, Nat.one_mul]
    rw [show i * sz + sz = x.length + i * sz by omega, List.take_append, this]
    simp [List.take_of_length_le (show x.length ≤ x.length + i * sz by omega)]
theorem flatten_len {sz : Nat} : ∀ {es : List (List DV)}, (∀ e ∈ es, e.length = sz) → es.flatten.length = es.length * sz
  | [], _ => by simp
  | x :: es, k => by
    have hx := k x (by simp)
    have k' : ∀ y ∈ es, y.length = sz := fun y hy => k y (by simp [hy])
    have := flatten_len k'
    simp only [List.flatten_cons, List.length_append, List.length_cons, this, hx, Nat.add_mul, Nat.one_mul]
    omega
end lists

/-- Ghost objects. -/
structure LoopG where
  env : List DV
  ps : List Tmp
  asg : Code
  body : Code
  st : LoopState
  pend : Option Code
inductive GObj where
  | row (ro : Bool) (cs : List DV)
  /-- A map: its entries, their stamps and the clock. -/
  | mp (es : List (DV × DV)) (st : List Nat × Nat)
  /-- An iterator over a map. -/
  | it (m : Option Nat) (since : Nat) (seen : List Nat) (last : Nat)
  | loop (lg : LoopG)
  | dead
def GObj.special : GObj → Bool
  | .mp .. => true
  | .it .. => true
  | .loop _ => true
  | _ => false

abbrev GS := List GObj

def CellsR (ρ : Ren) (w : World) (L : Loc) (cs : List DV) : Prop := ∀ (j : Nat) (v : DV), cs[j]? = some v → ∃ rv, w.cell? ⟨L.blk, L.off + j, none⟩ = some rv ∧ VR ρ v rv

def MapR (ρ : Ren) : List (DV × DV) → List MapEntry → Prop
  | [], l => l = []
  | (k, v) :: es, l => ∃ e l', l = e :: l' ∧ VR ρ k e.key ∧ VR ρ v e.val ∧ MapR ρ es l'

/-- The record of a loop over an iterator. -/
structure LoopR (ρ : Ren) (lg : LoopG) (r : Loop) : Prop where
  env : VRs ρ lg.env r.tmps.toList
  ps : r.params.toList = lg.ps
  asg : r.assign = lg.asg
  body : r.body = lg.body
  st : r.state = lg.st
  pend : r.pending = lg.pend
def ItR (ρ : Ren) : Option Nat → Option Nat → Prop
  | none, m => m = none
  | some id, m => ∃ M, ρ id = some M ∧ m = some M.blk
def ObjR (ρ : Ren) (L : Loc) : GObj → Obj → Prop
  | .mp es st, h => ∃ rs, h = .map rs st.2 ∧ MapR ρ es rs.toList ∧ rs.toList.map (·.born) = st.1
  | .it m since seen last, h => ∃ mm, h = .mapIter mm since seen.toArray last ∧ L.off = 0 ∧ ItR ρ m mm
  | .loop lg, h => ∃ r, h = .loop r ∧ LoopR ρ lg r
  | _, _ => False
def own (σ : GS) (i : Nat) : Prop := (∃ cs, σ[i]? = some (.row false cs)) ∨ ∃ o, σ[i]? = some o ∧ o.special = true

structure Rel (N : Nat) (w0 : World) (ρ : Ren) (σ : GS) (w : World) : Prop where
  below : Below N w0 w
  hN : N ≤ w0.heap.size
  dom : ∀ id L, ρ id = some L → id < σ.length
  lt : ∀ id L, ρ id = some L → L.blk < w.heap.size
  row : ∀ id L ro cs, ρ id = some L → σ[id]? = some (.row ro cs) → CellsR ρ w L cs ∧ (ro = true → ∀ (j : Nat) (v : DV), cs[j]? = some v → ∃ rv, ρ.fz L.blk (L.off + j) = some rv ∧ VR ρ v rv) ∧
    (ro = false → N ≤ L.blk ∧ cs.length ≤ L.ext ∧ ∃ cells e, w.heap[L.blk]? = some (.cells cells e (0, 0)) ∧ L.off + L.ext ≤ cells.size)
  obj : ∀ id L o, ρ id = some L → σ[id]? = some o → o.special = true → N ≤ L.blk ∧ ∃ h, w.heap[L.blk]? = some h ∧ ObjR ρ L o h
  disj : ∀ i j Li Lj, i ≠ j → ρ i = some Li → ρ j = some Lj → own σ i → own σ j → Li.blk ≠ Lj.blk
  fzw : ∀ (b o : Nat) (v : Value), ρ.fz b o = some v → w.cell? ⟨b, o, none⟩ = some v
  fzo : ∀ (b o : Nat) (v : Value) i L, ρ.fz b o = some v → ρ i = some L → own σ i → L.blk ≠ b

/-- The renaming has grown: what lay in the first n ghost objects is mapped as before. -/
structure Grow (n : Nat) (ρ ρ' : Ren) : Prop where
  keep : ∀ id, id < n → ρ' id = ρ id
  fz : ∀ b o v, ρ.fz b o = some v → ρ'.fz b o = some v

theorem Grow.refl (n : Nat) (ρ : Ren) : Grow n ρ ρ := ⟨fun _ _ => rfl, fun _ _ _ h => h⟩
theorem Grow.trans {n m : Nat} {a b c : Ren} (h : Grow n a b) (k : Grow m b c) (hm : n ≤ m) : Grow n a c :=
  ⟨fun id hid => (k.keep id (by omega)).trans (h.keep id hid), fun b o v hv => k.fz _ _ _ (h.fz _ _ _ hv)⟩
theorem Rel.le {N : Nat} {w0 : World} {ρ ρ' : Ren} {σ : GS} {w : World} (h : Rel N w0 ρ σ w) (g : Grow σ.length ρ ρ') : ρ.le ρ' :=
  ⟨fun id L hl => (g.keep id (h.dom id L hl)).trans hl, g.fz⟩

/-- What a piece of a run may do: new ghost objects lie in new blocks, or where others lay; blocks where no ghost object lies stay. -/
structure Ext (n : Nat) (ρ : Ren) (w : World) (ρ' : Ren) (w' : World) : Prop where
  grow : Grow n ρ ρ'
  new : ∀ id L, ρ' id = some L → (∃ i M, ρ i = some M ∧ M.blk = L.blk) ∨ w.heap.size ≤ L.blk
  size : w.heap.size ≤ w'.heap.size
  frame : ∀ b, b < w.heap.size → (∀ i M, ρ i = some M → M.blk ≠ b) → w'.heap[b]? = w.heap[b]?
  loops : ∀ (b : Nat) r, w.heap[b]? = some (.loop r) → ∃ r', w'.heap[b]? = some (.loop r') ∧ r'.defers = r.defers
theorem Ext.refl (n : Nat) (ρ : Ren) (w : World) : Ext n ρ w ρ w := ⟨Grow.refl _ _, fun id L h => .inl ⟨id, L, h, rfl⟩, Nat.le_refl _, fun _ _ _ => rfl, fun _ r h => ⟨r, h, rfl⟩⟩
theorem Ext.trans {n m : Nat} {a b c : Ren} {u v w : World} (h : Ext n a u b v) (k : Ext m b v c w) (hm : n ≤ m) : Ext n a u c w := by
  refine ⟨h.grow.trans k.grow hm, fun id L hl => ?_, Nat.le_trans h.size k.size, fun x hx hu => ?_, fun x r hx => ?_⟩
  · rcases k.new id L hl with ⟨i, M, h1, h2⟩ | h1
    · rcases h.new i M h1 with ⟨j, M', h3, h4⟩ | h3
      · exact .inl ⟨j, M', h3, h4.trans h2⟩
      · exact .inr (by omega)
    · exact .inr (Nat.le_trans h.size h1)
  · rw [k.frame x (Nat.lt_of_lt_of_le hx h.size) fun i M hM => ?_]
    · exact h.frame x hx hu
    · rcases h.new i M hM with ⟨j, M', h3, h4⟩ | h3
      · rw [← h4]; exact hu j M' h3
      · omega
  · obtain ⟨r1, h1, h2⟩ := h.loops x r hx
    obtain ⟨r2, h3, h4⟩ := k.loops x r1 h1
    exact ⟨r2, h3, h4.trans h2⟩
theorem Rel.le' {N : Nat} {w0 : World} {ρ ρ' : Ren} {σ : GS} {w w1 w2 : World} (h : Rel N w0 ρ σ w) (g : Ext σ.length ρ w1 ρ' w2) : ρ.le ρ' := h.le g.grow

theorem MapR.mono {ρ ρ' : Ren} (h : ρ.le ρ') : ∀ (es : List (DV × DV)) (l : List MapEntry), MapR ρ es l → MapR ρ' es l
  | [], _, hm => hm
  | (k, v) :: es, _, ⟨e, l', h1, h2, h3, h4⟩ => ⟨e, l', h1, VR.mono h _ _ h2, VR.mono h _ _ h3, MapR.mono h es l' h4⟩
theorem ItR.mono {ρ ρ' : Ren} (h : ρ.le ρ') : ∀ {m mm : Option Nat}, ItR ρ m mm → ItR ρ' m mm
  | none, _, e => e
  | some id, _, ⟨M, h1, h2⟩ => ⟨M, h.at_ _ _ h1, h2⟩
theorem ObjR.mono {ρ ρ' : Ren} (h : ρ.le ρ') {L : Loc} : ∀ {o : GObj} {x : Obj}, ObjR ρ L o x → ObjR ρ' L o x
  | .mp es st, _, ⟨rs, h1, h2, h3⟩ => ⟨rs, h1, MapR.mono h _ _ h2, h3⟩
  | .it .., _, ⟨mm, h1, h2, h3⟩ => ⟨mm, h1, h2, h3.mono h⟩
  | .loop lg, _, ⟨r, h1, h2⟩ => ⟨r, h1, ⟨VRs.mono h _ _ h2.env, h2.ps, h2.asg, h2.body, h2.st, h2.pend⟩⟩
theorem Rel.mp {N : Nat} {w0 : World} {ρ : Ren} {σ : GS} {w : World} (h : Rel N w0 ρ σ w) (id : Nat) (L : Loc) (es : List (DV × DV)) (st : List Nat × Nat) (hL : ρ id = some L) (hs : σ[id]? = some (.mp es st)) : N ≤ L.blk ∧ ∃ rs, w.heap[L.blk]? = some (.map rs st.2) ∧ MapR ρ es rs.toList ∧ rs.toList.map (·.born) = st.1 := by
  obtain ⟨h1, x, h2, rs, rfl, h3⟩ := h.obj id L _ hL hs rfl
  exact ⟨h1, rs, h2, h3⟩
theorem CellsR.mono {ρ ρ' : Ren} (h : ρ.le ρ') {w : World} {L : Loc} {cs : List DV} (hc : CellsR ρ w L cs) : CellsR ρ' w L cs :=
  fun j v hv => let ⟨rv, h1, h2⟩ := hc j v hv; ⟨rv, h1, VR.mono h _ _ h2⟩
end Go.Gh
namespace Go.Gh
open Go.RowKit
set_option linter.unusedVariables false
set_option linter.unusedSimpArgs false

/-- A closed value without addresses. -/
def ofVal : Value → Option DV
  | .bool b => some (.bool b)
  | .int k n => some (.int k n)
  | .string s => some (.str s)
  | .pointer none => some .nilp
  | .slice none 0 0 => some .nils
  | .map none => some .nilmap
  | .nilFunc => some .nilf
  | _ => none
def ofVals : List Value → Option (List DV)
  | [] => some []
  | v :: vs => match ofVal v, ofVals vs with
    | some d, some ds => some (d :: ds)
    | _, _ => none
theorem ofVal_sound {v : Value} {d : DV} (h : ofVal v = some d) (ρ : Ren) : VR ρ d v := by
  unfold ofVal at h
  split at h <;> first | (cases h; simp [VR]; done) | (cases h)
theorem ofVals_sound : ∀ {vs : List Value} {ds : List DV}, ofVals vs = some ds → ∀ ρ : Ren, VRs ρ ds vs
  | [], ds, h, ρ => by simp [ofVals] at h; subst h; exact VRs.nil
  | v :: vs, ds, h, ρ => by
    simp only [ofVals] at h
    split at h
    · rename_i d ds' h1 h2; cases h; exact VRs.cons (ofVal_sound h1 ρ) (ofVals_sound h2 ρ)
    · cases h

/-- The cells of a value that is stored. -/
def DV.cells : DV → Option (List DV)
  | .any => none
  | .tuple _ => none
  | .agg cs => some cs
  | v => some [v]
theorem DV.cells_sound {ρ : Ren} {d : DV} {v : Value} (h : VR ρ d v) {cs : List DV} (hc : d.cells = some cs) : VRs ρ cs v.cells.toList := by
  cases d <;> simp only [DV.cells] at hc <;> try (cases hc)
  case agg => 
    simp only [VR] at h
    obtain ⟨a, h1, rfl⟩ := h
    simpa [Value.cells] using h1
  all_goals
    have hv := h
    simp only [VR] at h
    first
      | (subst h; exact VRs.cons hv VRs.nil)
      | (obtain ⟨L, h1, rfl⟩ := h; exact VRs.cons hv VRs.nil)
      | (obtain ⟨L, a, c, h1, rfl, h2⟩ := h; exact VRs.cons hv VRs.nil)
      | (obtain ⟨a, b, h1, h2, rfl⟩ := h; exact VRs.cons hv VRs.nil)
      | (obtain ⟨b, o, c, a, vs, rfl, _⟩ := h; exact VRs.cons hv VRs.nil)
      | (obtain ⟨b, o, vs, rfl, _⟩ := h; exact VRs.cons hv VRs.nil)

/-- Cells written over a row. -/
def over (cs : List DV) (off : Nat) (new : List DV) : List DV := cs.take off ++ (new ++ cs.drop (off + new.length))
def overV (cs : List Value) (off : Nat) (new : List Value) : List Value := cs.take off ++ (new ++ cs.drop (off + new.length))
theorem over_sound {ρ : Ren} {cs new : List DV} {rs rnew : List Value} (h : VRs ρ cs rs) (k : VRs ρ new rnew) (off : Nat) : VRs ρ (over cs off new) (overV rs off rnew) := by
  unfold over overV
  rw [k.length]
  exact (h.take off).append (k.append (h.drop _))
theorem foldl_set (new : List Value) : ∀ (cs : Array Value) (off j : Nat), off + j + new.length ≤ cs.size →
    ((new.zipIdx j).foldl (fun cs (c, j) => cs.setIfInBounds (off + j) c) cs).toList = overV cs.toList (off + j) new := by
  induction new with
  | nil => intro cs off j h; simp [overV]
  | cons v vs ih =>
    intro cs off j h
    simp only [List.length_cons] at h
    simp only [List.zipIdx_cons, List.foldl_cons]
    rw [show j + 1 = j + 1 from rfl, ih _ off (j + 1) (by simp; omega)]
    simp only [overV, Array.toList_setIfInBounds, List.length_cons]
    have hlt : off + j < cs.toList.length := by simp; omega
    rw [List.drop_set_of_lt (by omega), show off + (j + 1) = off + j + 1 by omega, List.take_set,
      List.take_succ_eq_append_getElem hlt]
    rw [List.set_append_right _ _ (by simp; omega)]
    have hm : min (off + j) cs.size = off + j := by omega
    simp [hm, show off + j + (vs.length + 1) = off + j + 1 + vs.length by omega]

def gfill : List (Nat × Nat) → List DV → List DV → Option (List DV)
  | [], cells, [] => some cells
  | (off, size) :: pl, cells, p :: ps =>
    match p.cells with
    | some cs => if cs.length = size ∧ off + size ≤ cells.length then gfill pl (over cells off cs) ps else none
    | none => none
  | _, _, _ => none
def placesOf (place : Nat → Option (Nat × Nat)) : List Nat → Option (List (Nat × Nat))
  | [] => some []
  | i :: is => match place i, placesOf place is with
    | some p, some ps => some (p :: ps)
    | _, _ => none
theorem gfill_sound {ρ : Ren} {place : Nat → Option (Nat × Nat)} : ∀ (parts : List (Nat × Value)) (pl : List (Nat × Nat)) (cells out : List DV) (ps : List DV) (rcells : Array Value),
    placesOf place (parts.map (·.1)) = some pl → VRs ρ cells rcells.toList → VRs ρ ps (parts.map (·.2)) → gfill pl cells ps = some out →
    ∃ rout, Instr.fill place rcells parts = some rout ∧ VRs ρ out rout.toList
  | [], pl, cells, out, ps, rcells, hp, hc, hps, h => by
    simp [placesOf] at hp; subst hp
    have hl := hps.length
    cases ps with
    | nil => simp [gfill] at h; subst h; exact ⟨rcells, rfl, hc⟩
    | cons a b => simp at hl
  | (i, v) :: parts, pl, cells, out, ps, rcells, hp, hc, hps, h => by
    simp only [List.map_cons, placesOf] at hp
    split at hp
    · rename_i p pl' h1 h2
      cases hp
      obtain ⟨off, size⟩ := p
      have hl := hps.length
      cases ps with
      | nil => simp at hl
      | cons a b =>
        simp only [List.map_cons, VRs] at hps
        obtain ⟨v', l', hv, hva, hvb⟩ := hps
        cases hv
        simp only [gfill] at h
        split at h
        · rename_i cs hcs
          split at h
          · rename_i hsz
            have hcv := DV.cells_sound hva hcs
            have hlen : v.cells.size = cs.length := by simpa using hcv.length
            have hlr : rcells.size = cells.length := by simpa using hc.length
            have ho := over_sound hc hcv off
            have hf := foldl_set v.cells.toList rcells off 0 (by simp; omega)
            obtain ⟨rout, hr1, hr2⟩ := gfill_sound parts pl' (over cells off cs) out b ((v.cells.zipIdx).foldl (fun cs (c, j) => cs.setIfInBounds (off + j) c) rcells) h2 (by
              have e : ((v.cells.zipIdx).foldl (fun cs (c, j) => cs.setIfInBounds (off + j) c) rcells) = ((v.cells.toList.zipIdx 0).foldl (fun cs (c, j) => cs.setIfInBounds (off + j) c) rcells) := by
                rw [← Array.toList_zipIdx, Array.foldl_toList]
              rw [e, hf]
              simpa using ho) hvb h
            refine ⟨rout, ?_, hr2⟩
            simp only [Instr.fill, h1]
            rw [if_neg (by simp; omega)]
            exact hr1
          · cases h
        · cases h
    · cases hp
end Go.Gh
namespace Go.Gh
open Go.RowKit
set_option linter.unusedVariables false
set_option linter.unusedSimpArgs false

/-- What a comparison with == needs to know of its type. -/
inductive ET where
  | none | bool | ptr | slice | map | func | arr2 (k : IntKind)
  deriving DecidableEq
def sizeD (P : Program) (t : TypeId) : Option Nat := (P.info? t).map (·.size)
def etOf (P : Program) (t : TypeId) : ET :=
  match P.underlying t with
  | some .bool => .bool
  | some (.pointer _) => .ptr
  | some (.slice _) => .slice
  | some (.map ..) => .map
  | some (.func ..) => .func
  | some (.array 2 e) => match P.underlying e, sizeD P e with
    | some (.int k), some 1 => if P.eqGuardType P.depth t then .none else .arr2 k
    | _, _ => .none
  | _ => .none
/-- Are two pairs of whole numbers the same? -/
def eq2 (k : IntKind) : DV → DV → Option Bool
  | .agg [.int i a, .int i' a'], .agg [.int j b, .int j' b'] => if i = k ∧ i' = k ∧ j = k ∧ j' = k then some (a == b && a' == b') else none
  | _, _ => none

/-- Operations that look at no memory, their types looked up. -/
inductive PK where
  | id | pick | bin (op : BinOp) (t : ET) | un (op : UnOp) | conv (k : IntKind)
  | build (zero : List DV) (pl : List (Nat × Nat)) | mkfunc (f : FuncId) (nf : Nat)
  | slice (sz : Nat) (lo hi mx : Bool)
  | faddr (off : Nat) | field (off size : Nat) (agg : Bool)
  | iaddr (sz : Nat) | iarr (len sz : Nat) | index (len sz : Nat) (agg : Bool)
  | extract (i : Nat) | len | mx | mn | nilck | cap | sidx

def gint (op : BinOp) (k : IntKind) (a b : Int) : Option DV :=
  match op with
  | .add => some (.int k (k.wrap (a + b)))
  | .sub => some (.int k (k.wrap (a - b)))
  | .mul => some (.int k (k.wrap (a * b)))
  | .quo => if b = 0 then none else some (.int k (k.wrap (a.tdiv b)))
  | .rem => if b = 0 then none else some (.int k (a.tmod b))
  | .and => some (.int k (bits .and k a b))
  | .or => some (.int k (bits .or k a b))
  | .xor => some (.int k (bits .xor k a b))
  | .andNot => some (.int k (bits .andNot k a b))
  | .eql => some (.bool (a == b))
  | .neq => some (.bool (a != b))
  | .lss => some (.bool (a < b))
  | .leq => some (.bool (a ≤ b))
  | .gtr => some (.bool (a > b))
  | .geq => some (.bool (a ≥ b))
  | _ => none
def gshift (op : BinOp) (k : IntKind) (a b : Int) : Option DV :=
  if b < 0 then none else
  match op with
  | .shl => some (.int k (k.wrap (a * 2 ^ (min b.toNat k.bits))))
  | .shr => some (.int k (a.fdiv (2 ^ (min b.toNat k.bits))))
  | _ => none
/-- Are two values of a type that can be held against nil the same? -/
def geq : ET → DV → DV → Option Bool
  | .bool, .bool a, .bool b => some (a == b)
  | .ptr, .nilp, .nilp => some true
  | .ptr, .nilp, .ptr .. => some false
  | .ptr, .ptr .., .nilp => some false
  | .slice, .nils, .nils => some true
  | .slice, .nils, .slice _ _ len _ cap => if 0 < len then some false else none
  | .slice, .slice _ _ len _ cap, .nils => if 0 < len then some false else none
  | .slice, .nils, .fsl _ es => if 0 < es.length then some false else none
  | .slice, .fsl _ es, .nils => if 0 < es.length then some false else none
  | .map, .nilmap, .nilmap => some true
  | .map, .nilmap, .map _ => some false
  | .map, .map _, .nilmap => some false
  | .func, .nilf, .nilf => some true
  | .func, .nilf, .func .. => some false
  | .func, .func .., .nilf => some false
  | .arr2 k, x, y => eq2 k x y
  | _, _, _ => none
def gbin (op : BinOp) (t : ET) (x y : DV) : Option DV :=
  match x, y with
  | .int k a, .int k' b => if op = .shl ∨ op = .shr then gshift op k a b else if k = k' then gint op k a b else none
  | x, y => match op with
    | .eql => (geq t x y).map .bool
    | .neq => (geq t x y).map fun b => .bool !b
    | _ => none
def gun (op : UnOp) (x : DV) : Option DV :=
  match op, x with
  | .neg, .int k n => some (.int k (k.wrap (0 - n)))
  | .not, .bool b => some (.bool !b)
  | .xor, .int k n => some (.int k (bits .xor k (if k.signed then -1 else k.max) n))
  | _, _ => none
def gbound (x : DV) (y : Nat) : Option Nat :=
  match x with
  | .int _ i => if 0 ≤ i ∧ i ≤ y then some i.toNat else none
  | _ => none
def gbm (mx : Option DV) (cap : Nat) : Option Nat := match mx with | some v => gbound v cap | none => some cap
def gbh (hi : Option DV) (full : Bool) (len m : Nat) : Option Nat := match hi with | some v => gbound v m | none => if full = false ∧ len ≤ m then some len else none
def gbl (lo : Option DV) (h : Nat) : Option Nat := match lo with | some v => gbound v h | none => some 0
/-- x[lo:hi:mx] of a slice. -/
def gslice (sz : Nat) (x : DV) (lo hi mx : Option DV) : Option DV :=
  match x with
  | .slice id off len sz' cap =>
    if sz' = sz then
      (gbm mx (cap.getD len)).bind fun m => (gbh hi mx.isSome len m).bind fun h => (gbl lo h).bind fun l =>
        some (.slice id (off + l * sz) (h - l) sz (if mx.isSome ∨ cap.isSome then some (m - l) else none))
    else none
  | .nils => (gbm mx 0).bind fun m => (gbh hi mx.isSome 0 m).bind fun h => (gbl lo h).bind fun _ => some .nils
  | .fsl sz' es =>
    if sz' = sz then
      (gbm mx es.length).bind fun m => (gbh hi mx.isSome es.length m).bind fun h => (gbl lo h).bind fun l => some (.fsl sz ((es.drop l).take (h - l)))
    else none
  | _ => none

def gpure : PK → List DV → Option DV
  | .id, [x] => some x
  | .pick, [.bool c, a, b] => some (if c then a else b)
  | .bin op t, [x, y] => gbin op t x y
  | .un op, [x] => gun op x
  | .conv k, [.int _ n] => some (.int k (k.wrap n))
  | .build zero pl, ps => (gfill pl zero ps).map .agg
  | .mkfunc f nf, xs => some (.func f (xs.take nf) (xs.drop nf))
  | .slice sz lo hi mx, x :: rest =>
    match lo, hi, mx, rest with
    | false, false, false, [] => gslice sz x none none none
    | true, false, false, [l] => gslice sz x (some l) none none
    | false, true, false, [h] => gslice sz x none (some h) none
    | true, true, false, [l, h] => gslice sz x (some l) (some h) none
    | false, true, true, [h, m] => gslice sz x none (some h) (some m)
    | true, true, true, [l, h, m] => gslice sz x (some l) (some h) (some m)
    | _, _, _, _ => none
  | .faddr off, [.ptr id o] => some (.ptr id (o + off))
  | .faddr off, [.fptr cs] => some (.fptr (cs.drop off))
  | .field off size agg, [.agg cs] => if agg then (if off + size ≤ cs.length then some (.agg ((cs.drop off).take size)) else none) else cs[off]?
  | .iaddr sz, [.slice id off len sz' _, .int _ i] => if 0 ≤ i ∧ i < len then (if sz' = sz then some (.ptr id (off + i.toNat * sz)) else none) else none
  | .iaddr sz, [.fsl sz' es, .int _ i] => if sz' = sz ∧ 0 ≤ i then (es[i.toNat]?).map .fptr else none
  | .iarr len sz, [.fptr cs, .int _ i] => if 0 ≤ i ∧ i < len then some (.fptr ((cs.drop (i.toNat * sz)).take sz)) else none
  | .iarr len sz, [.ptr id off, .int _ i] => if 0 ≤ i ∧ i < len then some (.ptr id (off + i.toNat * sz)) else none
  | .index len sz agg, [.agg cs, .int _ i] => if 0 ≤ i ∧ i < len then (if agg then (if i.toNat * sz + sz ≤ cs.length then some (.agg ((cs.drop (i.toNat * sz)).take sz)) else none) else cs[i.toNat * sz]?) else none
  | .extract i, [.tuple vs] => vs[i]?
  | .len, [.slice _ _ len _ _] => some (.int .i64 len)
  | .len, [.nils] => some (.int .i64 0)
  | .len, [.fsl _ es] => some (.int .i64 es.length)
  | .cap, [.nils] => some (.int .i64 0)
  | .cap, [.slice _ _ _ _ (some c)] => some (.int .i64 c)
  | .sidx, [.str s, .int _ i] => if 0 ≤ i then (s[i.toNat]?).map fun b => .int .u8 b.toNat else none
  | .mx, [.int k a, .int _ b] => some (.int k (if b > a then b else a))
  | .mn, [.int k a, .int _ b] => some (.int k (if b < a then b else a))
  | .nilck, [.ptr id o] => some (.ptr id o)
  | .nilck, [.fptr cs] => some (.fptr cs)
  | .nilck, [.func f a b] => some (.func f a b)
  | .nilck, [.map m] => some (.map m)
  | _, _ => none

def isAggD : Option TypeDesc → Bool
  | some (.struct _) => true
  | some (.array ..) => true
  | _ => false
/-- Are all values false? Large arrays are asked so, since the list is long. -/
def allFalse : Nat → List Value → Bool
  | 0, [] => true
  | n + 1, .bool false :: l => allFalse n l
  | _, _ => false
def bigOf (P : Program) (t : TypeId) : Option Nat := match P.underlying t with
  | some (.array n _) => if 64 < n then some n else none
  | _ => none
/-- Are all values the byte zero? -/
def allNul : Nat → List Value → Bool
  | 0, [] => true
  | n + 1, .int .u8 (.ofNat 0) :: l => allNul n l
  | _, _ => false
def allOf (n : Nat) (l : List Value) : Option DV := if allFalse n l then some (.bool false) else if allNul n l then some (.int .u8 0) else none
/-- A large array type whose zero value is false all over, or the byte zero. -/
def bigF (P : Program) (t : TypeId) : Option (Nat × DV) := match bigOf P t, (P.info? t).bind (·.zero) with
  | some n, some z => (allOf n z.cells.toList).map fun d => (n, d)
  | _, _ => none
def zeroD (P : Program) (t : TypeId) : Option (List DV) := ((P.info? t).bind (·.zero)).bind fun z => match bigOf P t with
  | some n => match allOf n z.cells.toList with
    | some d => some (List.replicate n d)
    | none => ofVals z.cells.toList
  | none => ofVals z.cells.toList

def pkOf (P : Program) (o : Oper) : Option PK :=
  match o.op with
  | .move _ | .assign _ => some .id
  | .pick .. => some .pick
  | .binOp op t _ _ _ => some (.bin op (etOf P t))
  | .unOp op _ _ => some (.un op)
  | .convert s d _ => match P.underlying s, P.underlying d with
    | some _, some (.int k) => some (.conv k)
    | _, _ => none
  | .build t parts => match P.underlying t, zeroD P t with
    | some (.struct fs), some z => match placesOf (fun i => (fs[i]?).bind fun f => (sizeD P f.type).map fun s => (f.offset, s)) (parts.toList.map (·.1)) with
      | some pl => if (fs.all fun f => (sizeD P f.type).isSome) then some (.build z pl) else none
      | none => none
    | some (.array _ e), some z => match sizeD P e with
      | some s => match placesOf (fun i => some (i * s, s)) (parts.toList.map (·.1)) with
        | some pl => some (.build z pl)
        | none => none
      | none => none
    | _, _ => none
  | .makeFunc (.func f) first _ => some (.mkfunc f first.size)
  | .slice t _ lo hi mx => match P.underlying t with
    | some (.slice e) => (sizeD P e).map fun s => .slice s lo.isSome hi.isSome mx.isSome
    | _ => none
  | .fieldAddr s _ f => match P.underlying s with
    | some (.struct fs) => match fs[f]? with
      | some fld => if (sizeD P fld.type).any (· != 0) then some (.faddr fld.offset) else none
      | none => none
    | _ => none
  | .field s _ f => match P.underlying s with
    | some (.struct fs) => match fs[f]? with
      | some fld => match P.underlying fld.type, sizeD P fld.type with
        | some d, some n => some (.field fld.offset n (isAggD (some d)))
        | _, _ => none
      | none => none
    | _ => none
  | .indexAddr t _ _ => match P.underlying t with
    | some (.slice e) => (sizeD P e).map .iaddr
    | some (.array n e) => (sizeD P e).map (.iarr n)
    | _ => none
  | .index t _ _ => match P.underlying t with
    | some (.array n e) => match P.underlying e, sizeD P e with
      | some d, some s => some (.index n s (isAggD (some d)))
      | _, _ => none
    | some .string => some .sidx
    | _ => none
  | .extract _ i => some (.extract i)
  | .nilCheck _ => some .nilck
  | .call c => match c.callee with
    | .builtin .len => match c.argTypes[0]? with
      | some t => match P.underlying t with
        | some (.slice _) => some .len
        | _ => none
      | none => none
    | .builtin .cap => match c.argTypes[0]? with
      | some t => match P.underlying t with
        | some (.slice _) => some .cap
        | _ => none
      | none => none
    | .builtin .max => some .mx
    | .builtin .min => some .mn
    | _ => none
  | _ => none
end Go.Gh
namespace Go.Gh
open Go.RowKit
set_option linter.unusedVariables false
set_option linter.unusedSimpArgs false

section
variable {P : Program} {ρ : Ren}

theorem sizeD_run {t : TypeId} {n : Nat} (h : sizeD P t = some n) (w : World) : (sizeOf t).run P w = .ok n w := by
  unfold sizeD at h
  cases hi : P.info? t with
  | none => simp [hi] at h
  | some i => simp [hi] at h; simp [sizeOf, typeInfo, hi, h]
theorem under_run {t : TypeId} {d : TypeDesc} (h : P.underlying t = some d) (w : World) : (underlying t).run P w = .ok d w := run_underlying h w
theorem isAgg_run {t : TypeId} {d : TypeDesc} (h : P.underlying t = some d) (w : World) : (isAgg t).run P w = .ok (isAggD (some d)) w := by
  simp only [isAgg, Sem.run_bind, under_run h, Result.andThen_ok]
  cases d <;> rfl
theorem allFalse_eq : ∀ {n : Nat} {l : List Value}, allFalse n l = true → l = List.replicate n (.bool false)
  | 0, [], _ => rfl
  | n + 1, .bool false :: l, h => by rw [allFalse_eq (n := n) (l := l) h, List.replicate_succ]
theorem VRs.falses : ∀ n : Nat, VRs ρ (List.replicate n (.bool false)) (List.replicate n (.bool false))
  | 0 => by simp [VRs]
  | n + 1 => by rw [List.replicate_succ, List.replicate_succ]; simp only [VRs]; exact ⟨_, _, rfl, by simp [VR], VRs.falses n⟩
theorem allNul_eq : ∀ {n : Nat} {l : List Value}, allNul n l = true → l = List.replicate n (.int .u8 0)
  | 0, [], _ => rfl
  | n + 1, .int .u8 (.ofNat 0) :: l, h => by rw [allNul_eq (n := n) (l := l) h, List.replicate_succ]; rfl
theorem VRs.nuls : ∀ n : Nat, VRs ρ (List.replicate n (.int .u8 0)) (List.replicate n (.int .u8 0))
  | 0 => by simp [VRs]
  | n + 1 => by rw [List.replicate_succ, List.replicate_succ]; simp only [VRs]; exact ⟨_, _, rfl, by simp [VR], VRs.nuls n⟩
theorem allOf_sound {n : Nat} {l : List Value} {d : DV} (h : allOf n l = some d) : VRs ρ (List.replicate n d) l := by
  unfold allOf at h
  split at h
  · rename_i hall
    cases h
    rw [allFalse_eq hall]; exact VRs.falses _
  · split at h
    · rename_i hall
      cases h
      rw [allNul_eq hall]; exact VRs.nuls _
    · cases h
theorem bigF_zero {t : TypeId} {n : Nat} {d : DV} (h : bigF P t = some (n, d)) : zeroD P t = some (List.replicate n d) := by
  unfold bigF at h
  split at h
  · rename_i m z h1 h2
    cases hall : allOf m z.cells.toList with
    | none => rw [hall] at h; cases h
    | some d' =>
      rw [hall] at h
      cases h
      unfold zeroD
      rw [h2]
      simp only [Option.bind_some, h1, hall]
  · cases h
theorem zeroD_run {t : TypeId} {z : List DV} (h : zeroD P t = some z) (w : World) : ∃ v, (zeroValue t).run P w = .ok v w ∧ VRs ρ z v.cells.toList := by
  unfold zeroD at h
  cases hi : P.info? t with
  | none => simp [hi] at h
  | some i =>
    cases hz : i.zero with
    | none => simp [hi, hz] at h
    | some v =>
      refine ⟨v, by simp [zeroValue, typeInfo, hi, hz], ?_⟩
      simp only [hi, hz, Option.bind_some] at h
      split at h
      · split at h
        · rename_i hall
          cases h
          exact allOf_sound hall
        · exact ofVals_sound h ρ
      · exact ofVals_sound h ρ

theorem VR.ptr_inv {id off : Nat} {v : Value} (h : VR ρ (.ptr id off) v) : ∃ L, ρ id = some L ∧ v = .pointer (some ⟨L.blk, L.off + off, none⟩) := by simpa only [VR] using h
theorem VR.agg_inv {cs : List DV} {v : Value} (h : VR ρ (.agg cs) v) : ∃ a, VRs ρ cs a ∧ v = .agg a.toArray := by simpa only [VR] using h
theorem VR.tuple_inv {cs : List DV} {v : Value} (h : VR ρ (.tuple cs) v) : ∃ a, VRs ρ cs a ∧ v = .tuple a.toArray := by simpa only [VR] using h
theorem VR.int_inv {k : IntKind} {n : Int} {v : Value} (h : VR ρ (.int k n) v) : v = .int k n := by simpa only [VR] using h
theorem VR.bool_inv {b : Bool} {v : Value} (h : VR ρ (.bool b) v) : v = .bool b := by simpa only [VR] using h
theorem VR.slice_inv {id off len sz : Nat} {cap : Option Nat} {v : Value} (h : VR ρ (.slice id off len sz cap) v) : ∃ L a c, ρ id = some L ∧ v = .slice a len c ∧ len ≤ c ∧ (c ≠ 0 → a = some ⟨L.blk, L.off + off, none⟩) ∧ (∀ c', cap = some c' → c = c') ∧ off + c * sz ≤ L.ext := by simpa only [VR] using h
theorem VR.fsl_inv {sz : Nat} {es : List (List DV)} {v : Value} (h : VR ρ (.fsl sz es) v) : ∃ (b o c : Nat) (a : Option Addr) (vs : List Value), v = .slice a es.length c ∧ es.length ≤ c ∧ (c ≠ 0 → a = some ⟨b, o, none⟩) ∧ VRs ρ es.flatten vs ∧ (∀ e ∈ es, e.length = sz) ∧ ∀ (k : Nat) (x : Value), vs[k]? = some x → ρ.fz b (o + k) = some x := by
  simp only [VR] at h
  obtain ⟨b, o, c, a, vs, h1, h2, h3, h4, h5⟩ := h
  exact ⟨b, o, c, a, vs, h1, h2, h3, h4.flat.1, h4.flat.2, h5⟩
theorem VR.fsl_of {sz : Nat} {es : List (List DV)} {b o c : Nat} {a : Option Addr} {vs : List Value} (h2 : es.length ≤ c) (h3 : c ≠ 0 → a = some ⟨b, o, none⟩) (h4 : VRs ρ es.flatten vs) (h5 : ∀ e ∈ es, e.length = sz) (h6 : ∀ (k : Nat) (x : Value), vs[k]? = some x → ρ.fz b (o + k) = some x) : VR ρ (.fsl sz es) (.slice a es.length c) := by
  simp only [VR]; exact ⟨b, o, c, a, vs, rfl, h2, h3, VRss.of h4 h5, h6⟩
theorem VR.fptr_inv {cs : List DV} {v : Value} (h : VR ρ (.fptr cs) v) : ∃ (b o : Nat) (vs : List Value), v = .pointer (some ⟨b, o, none⟩) ∧ VRs ρ cs vs ∧ ∀ (k : Nat) (x : Value), vs[k]? = some x → ρ.fz b (o + k) = some x := by simpa only [VR] using h
theorem VR.fptr_of {cs : List DV} {b o : Nat} {vs : List Value} (h1 : VRs ρ cs vs) (h2 : ∀ (k : Nat) (x : Value), vs[k]? = some x → ρ.fz b (o + k) = some x) : VR ρ (.fptr cs) (.pointer (some ⟨b, o, none⟩)) := by simp only [VR]; exact ⟨b, o, vs, rfl, h1, h2⟩
theorem VR.fsl_ne {sz : Nat} {es : List (List DV)} {v : Value} (h : VR ρ (.fsl sz es) v) (hl : 0 < es.length) : ∃ a n c, v = .slice (some a) n c := by
  obtain ⟨b, o, c, a, vs, h1, h2, h3, _⟩ := h.fsl_inv
  exact ⟨_, _, _, by rw [h1, h3 (by omega)]⟩
theorem VR.fsl_shape {sz : Nat} {es : List (List DV)} {v : Value} (h : VR ρ (.fsl sz es) v) : ∃ a n c, v = .slice a n c := by obtain ⟨b, o, c, a, vs, h1, _⟩ := h.fsl_inv; exact ⟨_, _, _, h1⟩
theorem VRs.one_inv {x : DV} {l : List Value} (h : VRs ρ [x] l) : ∃ y, l = [y] ∧ VR ρ x y := by
  simp only [VRs] at h; obtain ⟨v, l', rfl, h1, rfl⟩ := h; exact ⟨v, rfl, h1⟩
theorem VRs.two_inv {x y : DV} {l : List Value} (h : VRs ρ [x, y] l) : ∃ a b, l = [a, b] ∧ VR ρ x a ∧ VR ρ y b := by
  simp only [VRs] at h; obtain ⟨v, l', rfl, h1, u, l2, rfl, h2, rfl⟩ := h; exact ⟨v, u, rfl, h1, h2⟩
theorem gint_sound {op : BinOp} {k : IntKind} {a b : Int} {d : DV} (h : gint op k a b = some d) (hs : op ≠ .shl ∧ op ≠ .shr) (t : TypeId) (x y : Operand) (w : World) :
    ∃ rv, (do eqGuard op t x y (.int k a) (.int k b); binOp op t (.int k a) (.int k b) : Sem Value).run P w = .ok rv w ∧ VR ρ d rv := by
  cases op <;> simp only [gint] at h <;> (try split at h) <;> cases h <;>
    simp_all [eqGuard_at_int, binOp, Op.intArith, Op.intDiv, Op.intBits, Op.intCmp, bits, VR]
theorem gshift_sound {op : BinOp} {k k' : IntKind} {a b : Int} {d : DV} (h : gshift op k a b = some d) (t : TypeId) (x y : Operand) (w : World) :
    ∃ rv, (do eqGuard op t x y (.int k a) (.int k' b); binOp op t (.int k a) (.int k' b) : Sem Value).run P w = .ok rv w ∧ VR ρ d rv := by
  unfold gshift at h
  split at h
  · cases h
  · rename_i hb
    cases op <;> simp at h <;> subst h <;> simp [eqGuard_at_int, binOp, Op.shift, hb, VR]
/-- One round of the model's equality, its depth out of sight. -/
theorem equal_unfold (t : TypeId) (x y : Value) : Op.equal t x y = Op.equalIn (9999 + 1) t x y := rfl
theorem eq2_spec {k : IntKind} {x y : DV} {b : Bool} (h : eq2 k x y = some b) : ∃ a a' c c', x = .agg [.int k a, .int k a'] ∧ y = .agg [.int k c, .int k c'] ∧ b = (a == c && a' == c') := by
  unfold eq2 at h
  split at h
  · split at h
    · rename_i hh
      obtain ⟨rfl, rfl, rfl, rfl⟩ := hh
      cases h
      exact ⟨_, _, _, _, rfl, rfl, rfl⟩
    · cases h
  · cases h
theorem VRs.two_ints {i j : IntKind} {a b : Int} {l : List Value} (h : VRs ρ [.int i a, .int j b] l) : l = [.int i a, .int j b] := by
  obtain ⟨x, y, rfl, h1, h2⟩ := h.two_inv
  rw [h1.int_inv, h2.int_inv]
theorem equal_arr2 {t e : TypeId} {k : IntKind} (ht : P.underlying t = some (.array 2 e)) (he : P.underlying e = some (.int k)) (hs : sizeD P e = some 1) (a b c d : Int) (w : World) :
    (Op.equal t (.agg #[.int k a, .int k b]) (.agg #[.int k c, .int k d])).run P w = .ok (a == c && b == d) w := by
  have e1 : Op.equal t (.agg #[.int k a, .int k b]) (.agg #[.int k c, .int k d]) = Op.equalIn (9998 + 1 + 1) t (.agg #[.int k a, .int k b]) (.agg #[.int k c, .int k d]) := rfl
  rw [e1]
  generalize 9998 = dep
  have hin : ∀ x y : Int, (Op.equalIn (dep + 1) e (.int k x) (.int k y)).run P w = .ok (x == y) w := by
    intro x y
    simp [Op.equalIn, under_run he]
  have hp0 : ∀ x y : Int, (part e #[.int k x, .int k y] (0 * 1)).run P w = .ok (.int k x) w := by
    intro x y; simp [part, isAgg_run he, isAggD]
  have hp1 : ∀ x y : Int, (part e #[.int k x, .int k y] (1 * 1)).run P w = .ok (.int k y) w := by
    intro x y; simp [part, isAgg_run he, isAggD]
  rw [Op.equalIn]
  simp only [Sem.run_bind, under_run ht, Result.andThen_ok, sizeD_run hs]
  rw [Std.Legacy.Range.forIn_eq_forIn_range']
  simp only [Std.Legacy.Range.size, List.range', List.forIn_cons, List.forIn_nil, Nat.reduceAdd, Nat.reduceSub, Nat.reduceDiv, Nat.zero_add]
  simp [hp0, hp1, hin]
  by_cases h1 : a = c <;> by_cases h2 : b = d <;> simp [h1, h2]
theorem VR.nilp_inv {v : Value} (h : VR ρ .nilp v) : v = .pointer none := by simpa only [VR] using h
theorem VR.nils_inv {v : Value} (h : VR ρ .nils v) : v = .slice none 0 0 := by simpa only [VR] using h
theorem VR.nilmap_inv {v : Value} (h : VR ρ .nilmap v) : v = .map none := by simpa only [VR] using h
theorem VR.nilf_inv {v : Value} (h : VR ρ .nilf v) : v = .nilFunc := by simpa only [VR] using h
theorem VR.ptr_shape {id off : Nat} {v : Value} (h : VR ρ (.ptr id off) v) : ∃ a, v = .pointer (some a) := by obtain ⟨L, _, h⟩ := h.ptr_inv; exact ⟨_, h⟩
theorem VR.map_shape {id : Nat} {v : Value} (h : VR ρ (.map id) v) : ∃ a, v = .map (some a) := by simp only [VR] at h; obtain ⟨L, _, h⟩ := h; exact ⟨_, h⟩
theorem VR.slice_shape {id off len sz : Nat} {cap : Option Nat} {v : Value} (h : VR ρ (.slice id off len sz cap) v) : ∃ a n c, v = .slice a n c := by obtain ⟨L, a, c, _, h, _⟩ := h.slice_inv; exact ⟨_, _, _, h⟩
theorem VR.func_inv {f : FuncId} {x y : List DV} {v : Value} (h : VR ρ (.func f x y) v) : ∃ a b, VRs ρ x a ∧ VRs ρ y b ∧ v = .func (.func f) a.toArray b.toArray := by simpa only [VR] using h
theorem VR.func_shape {f : FuncId} {x y : List DV} {v : Value} (h : VR ρ (.func f x y) v) : ∃ a b, v = .func (.func f) a b := by obtain ⟨a, b, _, _, h⟩ := h.func_inv; exact ⟨_, _, h⟩
theorem VR.slice_ne {id off len sz : Nat} {cap : Option Nat} {v : Value} (h : VR ρ (.slice id off len sz cap) v) (hl : 0 < len) : ∃ a n c, v = .slice (some a) n c := by
  obtain ⟨L, a, c, _, h1, h2, h3, _⟩ := h.slice_inv
  exact ⟨_, _, _, by rw [h1, h3 (by omega)]⟩

/-- A comparison with == (and its guard). -/
theorem geq_sound {t : TypeId} {x y : DV} {b : Bool} (h : geq (etOf P t) x y = some b) {u v : Value} (hu : VR ρ x u) (hv : VR ρ y v) (op : BinOp) (p q : Operand) (w : World) :
    (Op.equal t u v).run P w = .ok b w ∧ (eqGuard op t p q u v).run P w = .ok () w ∧ (binOp .eql t u v = (do pure (.bool (← Op.equal t u v)))) ∧ (binOp .neq t u v = (do pure (.bool (!(← Op.equal t u v))))) := by
  unfold etOf at h
  split at h
  case h_6 =>
    rename_i e ht
    split at h
    · rename_i k he hs
      split at h
      · simp [geq] at h
      · rename_i hg
        simp only [geq] at h
        obtain ⟨a, a', c, c', rfl, rfl, rfl⟩ := eq2_spec h
        obtain ⟨l, hl, rfl⟩ := hu.agg_inv
        obtain ⟨l', hl', rfl⟩ := hv.agg_inv
        rw [hl.two_ints, hl'.two_ints]
        refine ⟨equal_arr2 ht he hs a a' c c' w, ?_, rfl, rfl⟩
        cases op <;> simp [eqGuard, hg]
    · simp [geq] at h
  case h_7 => simp [geq] at h
  all_goals
    rename_i ht
    have hund := under_run ht w
    unfold geq at h
    split at h
    all_goals try (cases h; done)
    all_goals
      rename_i het
      try (cases het; done)
    all_goals
      (try (split at h))
      all_goals try (cases h; done)
      all_goals
        (first | (obtain ⟨_, _, _, h1⟩ := VR.slice_ne hu (by assumption)) | (obtain ⟨_, _, _, h1⟩ := VR.fsl_ne hu (by assumption)) | (have h1 := VR.bool_inv hu) | (have h1 := VR.nilp_inv hu) | (obtain ⟨_, h1⟩ := VR.ptr_shape hu) | (have h1 := VR.nils_inv hu) | (have h1 := VR.nilmap_inv hu) | (obtain ⟨_, h1⟩ := VR.map_shape hu) | (have h1 := VR.nilf_inv hu) | (obtain ⟨_, _, h1⟩ := VR.func_shape hu))
        (first | (obtain ⟨_, _, _, h2⟩ := VR.slice_ne hv (by assumption)) | (obtain ⟨_, _, _, h2⟩ := VR.fsl_ne hv (by assumption)) | (have h2 := VR.bool_inv hv) | (have h2 := VR.nilp_inv hv) | (obtain ⟨_, h2⟩ := VR.ptr_shape hv) | (have h2 := VR.nils_inv hv) | (have h2 := VR.nilmap_inv hv) | (obtain ⟨_, h2⟩ := VR.map_shape hv) | (have h2 := VR.nilf_inv hv) | (obtain ⟨_, _, h2⟩ := VR.func_shape hv))
        cases h
        rw [h1, h2]
        refine ⟨?_, by cases op <;> rfl, by rfl, by rfl⟩
        rw [equal_unfold]
        generalize 9999 = dep
        simp only [Op.equalIn, Sem.run_bind, hund, Result.andThen_ok]
        first | rfl | simp
end
end Go.Gh
namespace Go.Gh
open Go.RowKit
set_option linter.unusedVariables false
set_option linter.unusedSimpArgs false

section
variable {P : Program} {ρ : Ren}

theorem gbound_run {x : DV} {v : Value} (hx : VR ρ x v) {y n y' : Nat} (h : gbound x y = some n) (hy : y ≤ y') (code : BoundsCode) (w : World) : (Instr.sliceBound v y' code).run P w = .ok n w ∧ n ≤ y := by
  unfold gbound at h
  split at h
  · rename_i k i
    split at h
    · rename_i hi; cases h
      obtain rfl := hx.int_inv
      refine ⟨?_, by omega⟩
      have : 0 ≤ i ∧ i ≤ (y' : Int) := by omega
      simp [Instr.sliceBound, asIntOf, this]
    · cases h
  · cases h

/-- A slice expression, with the bounds known. -/
theorem slice_run {t : TypeId} {e : TypeId} {sz : Nat} (ht : P.underlying t = some (.slice e)) (hs : sizeD P e = some sz) {a : Option Addr} {len c : Nat} {lo hi mx : Option Value} {l h m : Nat} (w : World)
    (hb : (Instr.sliceBounds true len c lo hi mx).run P w = .ok (l, h, m) w) :
    (Instr.sliceAt t (.slice a len c) lo hi mx).run P w = .ok (.slice (if m = l then a else a.map (·.add (l * sz))) (h - l) (m - l)) w := by
  simp [Instr.sliceAt, Instr.slice, under_run ht, hb, sizeD_run hs]

inductive OptR (ρ : Ren) : Option DV → Option Value → Prop
  | none : OptR ρ none none
  | some {x : DV} {v : Value} (h : VR ρ x v) : OptR ρ (some x) (some v)
def rbm (rmx : Option Value) (c : Nat) : Sem Nat := match rmx with | some v => Instr.sliceBound v c .slice3Acap | none => pure c
def rbh (rhi rmx : Option Value) (len M : Nat) : Sem Nat := match rhi, rmx with | some v, some _ => Instr.sliceBound v M .slice3B | some v, none => Instr.sliceBound v M .sliceAcap | none, none => pure len | none, some _ => stuck "Slice: max without high"
def rbl (rlo : Option Value) (b : Bool) (h : Nat) : Sem Nat := match rlo with | some v => Instr.sliceBound v h (if b then .slice3C else .sliceB) | none => pure 0

theorem bound_m {mx : Option DV} {rmx : Option Value} (hx : OptR ρ mx rmx) {cap c m : Nat} (hc : cap ≤ c) (hm : gbm mx cap = some m) (w : World) :
    ∃ M, m ≤ M ∧ M ≤ c ∧ (mx = none → M = c ∧ m = cap) ∧ (mx.isSome = true → M = m ∧ m ≤ cap) ∧ (rbm rmx c).run P w = .ok M w := by
  cases hx with
  | none => simp [gbm] at hm; subst hm; exact ⟨c, hc, Nat.le_refl _, fun _ => ⟨rfl, rfl⟩, fun h => (by cases h), rfl⟩
  | some hv =>
    simp only [gbm] at hm
    obtain ⟨g1, g2⟩ := gbound_run (P := P) hv hm hc .slice3Acap w
    exact ⟨m, Nat.le_refl _, by omega, fun h => (by cases h), fun _ => ⟨rfl, g2⟩, g1⟩
theorem bound_h {hi mx : Option DV} {rhi rmx : Option Value} (hx : OptR ρ hi rhi) (hy : OptR ρ mx rmx) {len m M h : Nat} (hm : m ≤ M) (hh : gbh hi mx.isSome len m = some h) (w : World) :
    h ≤ m ∧ (rbh rhi rmx len M).run P w = .ok h w := by
  cases hx with
  | none =>
    cases hy with
    | none => simp [gbh] at hh; obtain ⟨h1, rfl⟩ := hh; exact ⟨h1, rfl⟩
    | some _ => simp [gbh] at hh
  | some hv =>
    simp only [gbh] at hh
    cases hy with
    | none => obtain ⟨g1, g2⟩ := gbound_run (P := P) hv hh hm .sliceAcap w; exact ⟨g2, g1⟩
    | some _ => obtain ⟨g1, g2⟩ := gbound_run (P := P) hv hh hm .slice3B w; exact ⟨g2, g1⟩
theorem bound_l {lo : Option DV} {rlo : Option Value} (hx : OptR ρ lo rlo) {h l : Nat} (b : Bool) (hl : gbl lo h = some l) (w : World) :
    l ≤ h ∧ (rbl rlo b h).run P w = .ok l w := by
  cases hx with
  | none => simp [gbl] at hl; subst hl; exact ⟨Nat.zero_le _, rfl⟩
  | some hv =>
    simp only [gbl] at hl
    obtain ⟨g1, g2⟩ := gbound_run (P := P) hv hl (Nat.le_refl _) (if b then .slice3C else .sliceB) w
    exact ⟨g2, g1⟩
theorem bounds_eq (len c : Nat) (rlo rhi rmx : Option Value) : Instr.sliceBounds true len c rlo rhi rmx = (do
    let m ← rbm rmx c
    let h ← rbh rhi rmx len m
    let l ← rbl rlo rmx.isSome h
    pure (l, h, m)) := by
  cases rmx <;> cases rhi <;> cases rlo <;> rfl
theorem bounds_run {lo hi mx : Option DV} {rlo rhi rmx : Option Value} (hlo : OptR ρ lo rlo) (hhi : OptR ρ hi rhi) (hmx : OptR ρ mx rmx) {len cap c m h l : Nat} (hcap : cap ≤ c)
    (hm : gbm mx cap = some m) (hh : gbh hi mx.isSome len m = some h) (hl : gbl lo h = some l) (w : World) :
    ∃ M, m ≤ M ∧ M ≤ c ∧ (mx = none → M = c ∧ m = cap) ∧ (mx.isSome = true → M = m ∧ m ≤ cap) ∧ h ≤ m ∧ l ≤ h ∧ (Instr.sliceBounds true len c rlo rhi rmx).run P w = .ok (l, h, M) w := by
  obtain ⟨M, hm1, hm2, hm3, hm4, hmr⟩ := bound_m (P := P) hmx hcap hm w
  obtain ⟨hH1, hhr⟩ := bound_h (P := P) hhi hmx hm1 hh w
  obtain ⟨hL1, hlr⟩ := bound_l (P := P) hlo rmx.isSome hl w
  refine ⟨M, hm1, hm2, hm3, hm4, hH1, hL1, ?_⟩
  rw [bounds_eq, Sem.run_bind, hmr, Result.andThen_ok, Sem.run_bind, hhr, Result.andThen_ok, Sem.run_bind, hlr, Result.andThen_ok]
  rfl

theorem gslice_sound {t : TypeId} {e : TypeId} {sz : Nat} (ht : P.underlying t = some (.slice e)) (hs : sizeD P e = some sz) {x : DV} {lo hi mx : Option DV} {d : DV} (h : gslice sz x lo hi mx = some d)
    {v : Value} {rlo rhi rmx : Option Value} (hv : VR ρ x v) (hlo : OptR ρ lo rlo) (hhi : OptR ρ hi rhi) (hmx : OptR ρ mx rmx) (w : World) :
    ∃ rv, (Instr.sliceAt t v rlo rhi rmx).run P w = .ok rv w ∧ VR ρ d rv := by
  unfold gslice at h
  split at h
  · rename_i id off len sz' cap
    obtain ⟨L, a, c, hL, rfl, h1, h2, h3, h4⟩ := hv.slice_inv
    have hcap : cap.getD len ≤ c := by
      cases cap with
      | none => exact h1
      | some c' => have := h3 c' rfl; simp; omega
    split at h
    case isFalse => cases h
    rename_i hszeq
    subst hszeq
    obtain ⟨m, hm, h⟩ := Option.bind_eq_some_iff.1 h
    obtain ⟨hh, hhh, h⟩ := Option.bind_eq_some_iff.1 h
    obtain ⟨l, hl, h⟩ := Option.bind_eq_some_iff.1 h
    cases h
    obtain ⟨M, hm1, hm2, hm3, hm4, hH1, hL1, hB⟩ := bounds_run (P := P) hlo hhi hmx hcap hm hhh hl w
    refine ⟨_, slice_run ht hs w hB, ?_⟩
    simp only [VR]
    refine ⟨L, _, M - l, hL, rfl, by omega, ?_, ?_, ?_⟩
    · intro hne
      rw [if_neg (by omega)]
      rw [h2 (by omega)]
      by_cases h0 : l * sz' = 0
      · simp [Addr.add, h0]
      · simp [Addr.add, h0]; omega
    · intro c' hc'
      cases mx with
      | none =>
        obtain ⟨q1, q2⟩ := hm3 rfl
        cases cap with
        | none => simp at hc'
        | some cc => have := h3 cc rfl; simp at hc' q2; omega
      | some y =>
        obtain ⟨q1, q2⟩ := hm4 rfl
        simp at hc'; omega
    · have h5 : (l + (M - l)) * sz' ≤ c * sz' := Nat.mul_le_mul_right _ (by omega)
      rw [Nat.add_mul] at h5
      omega
  · have hv' : v = .slice none 0 0 := by simpa only [VR] using hv
    subst hv'
    obtain ⟨m, hm, h⟩ := Option.bind_eq_some_iff.1 h
    obtain ⟨hh, hhh, h⟩ := Option.bind_eq_some_iff.1 h
    obtain ⟨l, hl, h⟩ := Option.bind_eq_some_iff.1 h
    cases h
    obtain ⟨M, hm1, hm2, hm3, hm4, hH1, hL1, hB⟩ := bounds_run (P := P) hlo hhi hmx (Nat.le_refl 0) hm hhh hl w
    refine ⟨_, slice_run ht hs w hB, ?_⟩
    obtain rfl : M = 0 := by omega
    obtain rfl : hh = 0 := by omega
    obtain rfl : l = 0 := by omega
    simp [VR]
  · rename_i sz' es
    obtain ⟨b, o, c, a, vs, rfl, h1, h2, h3, h4, h5⟩ := hv.fsl_inv
    split at h
    case isFalse => cases h
    rename_i hszeq
    subst hszeq
    obtain ⟨m, hm, h⟩ := Option.bind_eq_some_iff.1 h
    obtain ⟨hh, hhh, h⟩ := Option.bind_eq_some_iff.1 h
    obtain ⟨l, hl, h⟩ := Option.bind_eq_some_iff.1 h
    cases h
    obtain ⟨M, hm1, hm2, hm3, hm4, hH1, hL1, hB⟩ := bounds_run (P := P) hlo hhi hmx h1 hm hhh hl w
    refine ⟨_, slice_run ht hs w hB, ?_⟩
    have hml : m ≤ es.length := by
      cases mx with
      | none => have := hm3 rfl; omega
      | some y => have := hm4 rfl; omega
    have hlen : ((es.drop l).take (hh - l)).length = hh - l := by simp; omega
    have h4' : ∀ e ∈ es.drop l, e.length = sz' := fun e he => h4 e (List.mem_of_mem_drop he)
    have hkey := VR.fsl_of (ρ := ρ) (sz := sz') (es := (es.drop l).take (hh - l)) (b := b) (o := o + l * sz') (c := M - l) (a := if M = l then a else a.map (·.add (l * sz'))) (vs := (vs.drop (l * sz')).take ((hh - l) * sz')) (by omega) (fun hne => by
      rw [if_neg (by omega), h2 (by omega)]
      by_cases h0 : l * sz' = 0
      · simp [Addr.add, h0]
      · simp [Addr.add, h0]) (by
      rw [flatten_take h4', flatten_drop h4]
      exact (h3.drop _).take _) (fun e he => h4' e (List.mem_of_mem_take he)) (fun k x hx => by
      rw [List.getElem?_take] at hx
      split at hx
      · rw [List.getElem?_drop] at hx
        rw [← h5 _ x hx]; congr 1; omega
      · cases hx)
    rw [hlen] at hkey
    exact hkey
  · cases h
end
end Go.Gh
namespace Go.Gh
open Go.RowKit
set_option linter.unusedVariables false
set_option linter.unusedSimpArgs false

section
variable {P : Program} {ρ : Ren}

theorem fieldAt_run {s : TypeId} {fs : Array Field} (ht : P.underlying s = some (.struct fs)) {f : Nat} {fld : Field} (hf : fs[f]? = some fld) {n : Nat} (hn : sizeD P fld.type = some n) (h0 : n ≠ 0) (b o : Nat) (w : World) :
    (Instr.fieldAt s (.pointer (some ⟨b, o, none⟩)) f).run P w = .ok (.pointer (some ⟨b, o + fld.offset, none⟩)) w := by
  simp [Instr.fieldAt, under_run ht, hf, Instr.sureAddr, fieldPlace, sizeD_run hn, h0, Addr.add]
theorem part_run {t : TypeId} {d : TypeDesc} (ht : P.underlying t = some d) {n : Nat} (hn : sizeD P t = some n) {cs : List DV} {rs : List Value} (h : VRs ρ cs rs) (off : Nat) {v : DV}
    (hv : (if isAggD (some d) then (if off + n ≤ cs.length then some (.agg ((cs.drop off).take n)) else none) else cs[off]?) = some v) (w : World) :
    ∃ rv, (part t rs.toArray off).run P w = .ok rv w ∧ VR ρ v rv := by
  simp only [part, Sem.run_bind, isAgg_run ht, Result.andThen_ok]
  split at hv
  · rename_i ha
    split at hv
    · cases hv
      simp only [ha, if_true, Sem.run_bind, sizeD_run hn, Result.andThen_ok, Sem.run_pure]
      refine ⟨_, rfl, ?_⟩
      simp only [VR]
      refine ⟨(rs.drop off).take n, (h.drop off).take n, ?_⟩
      simp [List.extract_eq_take_drop]
    · cases hv
  · rename_i ha
    simp only [ha, Bool.false_eq_true, if_false]
    obtain ⟨y, hy, hr⟩ := h.get hv
    exact ⟨y, by simp [hy], hr⟩

theorem mapM_places : ∀ (fs : List Field), (∀ f ∈ fs, (sizeD P f.type).isSome = true) → ∀ w : World, (fs.mapM (fun (f : Field) => (do pure (f.offset, ← sizeOf f.type) : Sem (Nat × Nat)))).run P w = .ok (fs.map fun f => (f.offset, (sizeD P f.type).getD 0)) w
  | [], _, w => rfl
  | f :: fs, h, w => by
    obtain ⟨n, hn⟩ := Option.isSome_iff_exists.1 (h f (by simp))
    rw [List.mapM_cons]
    simp only [Sem.run_bind, sizeD_run hn, Result.andThen_ok, Sem.run_pure]
    rw [mapM_places fs (fun f hf => h f (by simp [hf])) w]
    simp [hn]

/-- What a pure operation yields in the ghost run, it yields in every world, and leaves the world as it is. -/
theorem gpure_sound {o : Oper} {k : PK} (hk : pkOf P o = some k) {g : Operand → DV} {r : Operand → Value} (hr : ∀ x ∈ o.op.operands, VR ρ (g x) (r x)) {v : DV}
    (hv : gpure k (o.op.operands.toList.map g) = some v) (w : World) : ∃ rv, (execOp r o).run P w = .ok (.value rv) w ∧ VR ρ v rv := by
  obtain ⟨dst, op, type, pos, after, guard⟩ := o
  cases op
  all_goals simp only [pkOf] at hk
  all_goals try (cases hk; done)
  case move x =>
    cases hk
    simp [Op.operands, gpure] at hv; subst hv
    exact ⟨_, rfl, hr _ (by simp [Op.operands])⟩
  case assign x =>
    cases hk
    simp [Op.operands, gpure] at hv; subst hv
    exact ⟨_, rfl, hr _ (by simp [Op.operands])⟩
  case pick c a b =>
    cases hk
    have h1 := hr c (by simp [Op.operands])
    have h2 := hr a (by simp [Op.operands])
    have h3 := hr b (by simp [Op.operands])
    simp only [Op.operands, List.map_cons, List.map_nil] at hv
    cases hc : g c <;> simp [hc, gpure] at hv
    rename_i t
    rw [hc] at h1
    have hb := h1.bool_inv
    subst hv
    refine ⟨if t then r a else r b, ?_, ?_⟩
    · simp [execOp, hb, asBool]
    · cases t
      · exact h3
      · exact h2
  case binOp op t x y yt =>
    cases hk
    have h1 := hr x (by simp [Op.operands])
    have h2 := hr y (by simp [Op.operands])
    simp only [Op.operands, List.map_cons, List.map_nil, gpure] at hv
    have key : ∃ rv, (do eqGuard op t x y (r x) (r y); binOp op t (r x) (r y) : Sem Value).run P w = .ok rv w ∧ VR ρ v rv := by
      unfold gbin at hv
      split at hv
      · rename_i k a k' b hx hy
        rw [hx] at h1; rw [hy] at h2
        rw [h1.int_inv, h2.int_inv]
        split at hv
        · exact gshift_sound hv t x y w
        · rename_i hs
          split at hv
          · rename_i hkk; subst hkk
            exact gint_sound hv ⟨fun h => hs (.inl h), fun h => hs (.inr h)⟩ t x y w
          · cases hv
      · rename_i hnn
        split at hv
        · obtain ⟨b, hb, rfl⟩ := Option.map_eq_some_iff.1 hv
          obtain ⟨he, g1, g2, g3⟩ := geq_sound hb h1 h2 .eql x y w
          exact ⟨.bool b, by rw [Sem.run_bind, g1, Result.andThen_ok]; simp [g2, he], by simp [VR]⟩
        · obtain ⟨b, hb, rfl⟩ := Option.map_eq_some_iff.1 hv
          obtain ⟨he, g1, g2, g3⟩ := geq_sound hb h1 h2 .neq x y w
          exact ⟨.bool (!b), by rw [Sem.run_bind, g1, Result.andThen_ok]; simp [g3, he], by simp [VR]⟩
        · cases hv
    obtain ⟨rv, h3, h4⟩ := key
    refine ⟨rv, ?_, h4⟩
    show Sem.run P (do pure (Next.value (← (do eqGuard op t x y (r x) (r y); binOp op t (r x) (r y) : Sem Value)))) w = _
    rw [Sem.run_bind, h3]
    rfl
  case unOp op t x =>
    cases hk
    have h1 := hr x (by simp [Op.operands])
    simp only [Op.operands, List.map_cons, List.map_nil, gpure] at hv
    unfold gun at hv
    split at hv
    · rename_i k n hx; rw [hx] at h1; cases hv
      exact ⟨_, by simp [execOp, h1.int_inv, Op.unary, Op.intArith]; rfl, by simp [VR]⟩
    · rename_i b hx; rw [hx] at h1; cases hv
      exact ⟨_, by simp [execOp, h1.bool_inv, Op.unary]; rfl, by simp [VR]⟩
    · rename_i k n hx; rw [hx] at h1; cases hv
      exact ⟨_, by simp [execOp, h1.int_inv, Op.unary, intBits_xor]; rfl, by simp [VR]⟩
    · cases hv
  case convert s d x =>
    have h1 := hr x (by simp [Op.operands])
    split at hk
    · rename_i sd k hs hd
      cases hk
      simp only [Op.operands, List.map_cons, List.map_nil] at hv
      cases hx : g x <;> simp [hx, gpure] at hv
      rename_i k0 n
      rw [hx] at h1; subst hv
      exact ⟨_, by simp [execOp, h1.int_inv, convert, under_run hs, under_run hd, Conv.intToInt]; rfl, by simp [VR]⟩
    · cases hk
  case build t parts =>
    have hps : VRs ρ ((parts.map (·.2)).toList.map g) ((parts.toList.map fun (i, x) => (i, r x)).map (·.2)) := by
      refine VRs.mk (by simp) fun i x hx => ?_
      simp only [Array.toList_map, List.map_map, List.getElem?_map, Option.map_eq_some_iff] at hx ⊢
      obtain ⟨p, hp, rfl⟩ := hx
      refine ⟨r p.2, ⟨p, hp, rfl⟩, hr p.2 ?_⟩
      simp only [Op.operands, List.mem_toArray, List.mem_map]
      exact ⟨p, List.mem_of_getElem? hp, rfl⟩
    have hops : (Op.build t parts).operands.toList.map g = (parts.map (·.2)).toList.map g := by simp [Op.operands]
    split at hk
    · rename_i fs z ht hz
      split at hk
      · rename_i pl hpl
        split at hk
        · rename_i hall
          cases hk
          rw [hops] at hv
          simp only [gpure] at hv
          obtain ⟨out, ho, rfl⟩ := Option.map_eq_some_iff.1 hv
          obtain ⟨zv, hz1, hz2⟩ := zeroD_run (ρ := ρ) hz w
          have hpl' : placesOf (fun (i : Nat) => (fs[i]?).bind fun f => (sizeD P f.type).map fun s => (f.offset, s)) ((parts.toList.map fun (i, x) => (i, r x)).map (·.1)) = some pl := by
            rw [← hpl]; congr 1; simp
          obtain ⟨rout, hf, hro⟩ := gfill_sound _ _ _ _ _ zv.cells hpl' hz2 hps ho
          have hm : ∃ places : Array (Nat × Nat), (fs.mapM (fun (f : Field) => (do pure (f.offset, ← sizeOf f.type) : Sem (Nat × Nat)))).run P w = .ok places w ∧ (fun (i : Nat) => places[i]?) = (fun (i : Nat) => (fs[i]?).bind fun f => (sizeD P f.type).map fun s => (f.offset, s)) := by
            refine ⟨fs.map fun f => (f.offset, (sizeD P f.type).getD 0), ?_, ?_⟩
            · rw [Array.mapM_eq_mapM_toList, Sem.run_map, mapM_places fs.toList (by
                intro f hf
                rw [Array.all_eq_true'] at hall
                exact hall f (by simpa using hf))]
              simp only [Result.andThen_ok]
              congr 1
              apply Array.ext'
              simp
            · funext i
              cases hi : fs[i]? with
              | none => simp [hi]
              | some f =>
                rw [Array.all_eq_true'] at hall
                obtain ⟨n, hn⟩ := Option.isSome_iff_exists.1 (hall f (Array.mem_of_getElem? hi))
                simp [hi, hn]
          obtain ⟨places, hm1, hm2⟩ := hm
          refine ⟨.agg rout, ?_, ?_⟩
          · have e : (parts.map fun (i, x) => (i, r x)).toList = parts.toList.map fun (i, x) => (i, r x) := by simp
            simp only [execOp, Instr.build, Sem.run_bind, hz1, Result.andThen_ok, under_run ht, hm1]
            rw [show (fun (x : Nat) => places[x]?) = (fun (i : Nat) => (fs[i]?).bind fun f => (sizeD P f.type).map fun s => (f.offset, s)) from hm2, e, hf]
            rfl
          · simp only [VR]; exact ⟨rout.toList, hro, by simp⟩
        · cases hk
      · cases hk
    · rename_i n e z ht hz
      split at hk
      · rename_i s hs
        split at hk
        · rename_i pl hpl
          cases hk
          rw [hops] at hv
          simp only [gpure] at hv
          obtain ⟨out, ho, rfl⟩ := Option.map_eq_some_iff.1 hv
          obtain ⟨zv, hz1, hz2⟩ := zeroD_run (ρ := ρ) hz w
          have hpl' : placesOf (fun i => some (i * s, s)) ((parts.toList.map fun (i, x) => (i, r x)).map (·.1)) = some pl := by
            rw [← hpl]; congr 1; simp
          obtain ⟨rout, hf, hro⟩ := gfill_sound _ _ _ _ _ zv.cells hpl' hz2 hps ho
          refine ⟨.agg rout, ?_, ?_⟩
          · have e : (parts.map fun (i, x) => (i, r x)).toList = parts.toList.map fun (i, x) => (i, r x) := by simp
            simp only [execOp, Instr.build, Sem.run_bind, hz1, Result.andThen_ok, under_run ht, sizeD_run hs]
            rw [e, hf]
            rfl
          · simp only [VR]; exact ⟨rout.toList, hro, by simp⟩
        · cases hk
      · cases hk
    · cases hk
  case makeFunc fn first captured =>
    cases fn <;> simp only at hk <;> cases hk
    rename_i f
    simp only [gpure] at hv; cases hv
    refine ⟨_, rfl, ?_⟩
    simp only [VR]
    have h1 : ∀ l : List Operand, (∀ x ∈ l, VR ρ (g x) (r x)) → VRs ρ (l.map g) (l.map r) := by
      intro l hl
      refine VRs.mk (by simp) fun i x hx => ?_
      simp only [List.getElem?_map, Option.map_eq_some_iff] at hx ⊢
      obtain ⟨y, hy, rfl⟩ := hx
      exact ⟨r y, ⟨y, hy, rfl⟩, hl y (List.mem_of_getElem? hy)⟩
    refine ⟨first.toList.map r, captured.toList.map r, ?_, ?_, (by rw [← Array.toList_map, ← Array.toList_map])⟩
    · have := h1 first.toList (fun x hx => hr x (by simp [Op.operands]; exact .inl (by simpa using hx)))
      simpa [Op.operands] using this
    · have := h1 captured.toList (fun x hx => hr x (by simp [Op.operands]; exact .inr (by simpa using hx)))
      simpa [Op.operands] using this
  case slice t x lo hi mx =>
    split at hk
    · rename_i e ht
      obtain ⟨s, hs, rfl⟩ := Option.map_eq_some_iff.1 hk
      have hopt : ∀ q : Option Operand, (∀ y, q = some y → VR ρ (g y) (r y)) → OptR ρ (q.map g) (q.map r) := by
        intro q hq
        cases q with
        | none => exact .none
        | some y => exact .some (hq y rfl)
      have hv' : gslice s (g x) (lo.map g) (hi.map g) (mx.map g) = some v := by
        cases lo <;> cases hi <;> cases mx <;> first | (simp [Op.operands, gpure] at hv; done) | simpa [Op.operands, gpure] using hv
      obtain ⟨rv, h1, h2⟩ := gslice_sound ht hs hv' (hr x (by simp [Op.operands])) (hopt lo fun y hy => hr y (by subst hy; simp [Op.operands])) (hopt hi fun y hy => hr y (by subst hy; simp [Op.operands])) (hopt mx fun y hy => hr y (by subst hy; simp [Op.operands])) w
      exact ⟨rv, by simp [execOp, h1], h2⟩
    · cases hk
  case fieldAddr s x f =>
    have h1 := hr x (by simp [Op.operands])
    split at hk
    · rename_i fs ht
      split at hk
      · rename_i fld hf
        split at hk
        · rename_i hsz
          cases hk
          simp only [Op.operands, List.map_cons, List.map_nil] at hv
          obtain ⟨n, hn, hn0⟩ : ∃ n, sizeD P fld.type = some n ∧ n ≠ 0 := by
            cases hq : sizeD P fld.type with
            | none => simp [hq] at hsz
            | some n => exact ⟨n, rfl, by simpa [hq] using hsz⟩
          cases hx : g x <;> simp [hx, gpure] at hv
          · rw [hx] at h1; subst hv
            obtain ⟨L, hL, hp⟩ := h1.ptr_inv
            refine ⟨_, by simp only [execOp, hp]; rw [Sem.run_bind, fieldAt_run ht hf hn hn0]; rfl, ?_⟩
            simp only [VR]
            exact ⟨L, hL, by simp [Nat.add_assoc]⟩
          · rw [hx] at h1; subst hv
            obtain ⟨b, o, vs, hp, g1, g2⟩ := h1.fptr_inv
            refine ⟨_, by simp only [execOp, hp]; rw [Sem.run_bind, fieldAt_run ht hf hn hn0]; rfl, ?_⟩
            refine VR.fptr_of (g1.drop fld.offset) fun k x hk => ?_
            rw [List.getElem?_drop] at hk
            rw [← g2 _ x hk]; congr 1; omega
        · cases hk
      · cases hk
    · cases hk
  case field s x f =>
    have h1 := hr x (by simp [Op.operands])
    split at hk
    · rename_i fs ht
      split at hk
      · rename_i fld hf
        split at hk
        · rename_i d n hd hn
          cases hk
          simp only [Op.operands, List.map_cons, List.map_nil] at hv
          cases hx : g x <;> simp only [hx, gpure] at hv <;> try (cases hv; done)
          rename_i cs
          rw [hx] at h1
          obtain ⟨a, ha, hp⟩ := h1.agg_inv
          obtain ⟨rv, h3, h4⟩ := part_run hd hn ha fld.offset hv w
          refine ⟨rv, ?_, h4⟩
          simp [execOp, hp, Instr.field, under_run ht, hf, asAgg, h3]
        · cases hk
      · cases hk
    · cases hk
  case indexAddr t x ix =>
    have h1 := hr x (by simp [Op.operands])
    have h2 := hr ix (by simp [Op.operands])
    split at hk
    · rename_i e ht
      obtain ⟨s, hs, rfl⟩ := Option.map_eq_some_iff.1 hk
      simp only [Op.operands, List.map_cons, List.map_nil] at hv
      cases hx : g x <;> simp only [hx, gpure] at hv <;> try (cases hv; done)
      case fsl sz' es =>
        cases hi : g ix <;> simp only [hi, gpure] at hv <;> try (cases hv; done)
        rename_i k i
        rw [hx] at h1; rw [hi] at h2
        obtain ⟨b, o, c, a, vs, hp, q1, q2, q3, q4, q5⟩ := h1.fsl_inv
        split at hv
        · rename_i hb
          obtain ⟨rfl, hb0⟩ := hb
          obtain ⟨e', he', rfl⟩ := Option.map_eq_some_iff.1 hv
          have hlt : i.toNat < es.length := by
            rcases Nat.lt_or_ge i.toNat es.length with h' | h'
            · exact h'
            · rw [List.getElem?_eq_none h'] at he'; cases he'
          have hin : 0 ≤ i ∧ i < (es.length : Int) := by omega
          have ha := q2 (by omega)
          subst ha
          refine ⟨.pointer (some ⟨b, o + i.toNat * sz', none⟩), ?_, ?_⟩
          · simp [execOp, hp, h2.int_inv, Instr.indexAt, asIntOf, under_run ht, sizeD_run hs, hin, Addr.add]
          · have hfl := flatten_take_drop q4 he'
            rw [← hfl]
            refine VR.fptr_of ((q3.drop _).take _) fun k x hk => ?_
            rw [List.getElem?_take] at hk
            split at hk
            · rw [List.getElem?_drop] at hk
              rw [← q5 _ x hk]; congr 1; omega
            · cases hk
        · cases hv
      rename_i id off len sz' cap
      cases hi : g ix <;> simp only [hi, gpure] at hv <;> try (cases hv; done)
      rename_i k i
      rw [hx] at h1; rw [hi] at h2
      obtain ⟨L, a, c, hL, hp, q1, q2, q3, q4⟩ := h1.slice_inv
      split at hv
      · rename_i hb
        split at hv
        · rename_i hszz
          cases hv
          subst hszz
          have ha := q2 (by omega)
          subst ha
          refine ⟨.pointer (some ⟨L.blk, L.off + off + i.toNat * sz', none⟩), ?_, ?_⟩
          · simp [execOp, hp, h2.int_inv, Instr.indexAt, asIntOf, under_run ht, sizeD_run hs, hb, Addr.add]
          · simp only [VR]; exact ⟨L, hL, by simp [Nat.add_assoc]⟩
        · cases hv
      · cases hv
    · rename_i n e ht
      obtain ⟨s, hs, rfl⟩ := Option.map_eq_some_iff.1 hk
      simp only [Op.operands, List.map_cons, List.map_nil] at hv
      cases hx : g x <;> simp only [hx, gpure] at hv <;> try (cases hv; done)
      case fptr cs =>
        cases hi : g ix <;> simp only [hi, gpure] at hv <;> try (cases hv; done)
        rename_i k i
        rw [hx] at h1; rw [hi] at h2
        obtain ⟨b, o, vs, hp, g1, g2⟩ := h1.fptr_inv
        split at hv
        · rename_i hb
          cases hv
          refine ⟨.pointer (some ⟨b, o + i.toNat * s, none⟩), ?_, ?_⟩
          · simp [execOp, hp, h2.int_inv, Instr.indexAt, asIntOf, under_run ht, sizeD_run hs, hb, Addr.add, Instr.sureAddr]
          · refine VR.fptr_of ((g1.drop _).take _) fun k x hk => ?_
            rw [List.getElem?_take] at hk
            split at hk
            · rw [List.getElem?_drop] at hk
              rw [← g2 _ x hk]; congr 1; omega
            · cases hk
        · cases hv
      rename_i id off
      cases hi : g ix <;> simp only [hi, gpure] at hv <;> try (cases hv; done)
      rename_i k i
      rw [hx] at h1; rw [hi] at h2
      obtain ⟨L, hL, hp⟩ := h1.ptr_inv
      split at hv
      · rename_i hb
        cases hv
        refine ⟨.pointer (some ⟨L.blk, L.off + off + i.toNat * s, none⟩), ?_, ?_⟩
        · simp [execOp, hp, h2.int_inv, Instr.indexAt, asIntOf, under_run ht, sizeD_run hs, hb, Addr.add, Instr.sureAddr]
        · simp only [VR]; exact ⟨L, hL, by simp [Nat.add_assoc]⟩
      · cases hv
    · cases hk
  case index t x ix =>
    have h1 := hr x (by simp [Op.operands])
    have h2 := hr ix (by simp [Op.operands])
    split at hk
    · rename_i n e ht
      split at hk
      · rename_i d s hd hs
        cases hk
        simp only [Op.operands, List.map_cons, List.map_nil] at hv
        cases hx : g x <;> simp only [hx, gpure] at hv <;> try (cases hv; done)
        rename_i cs
        cases hi : g ix <;> simp only [hi, gpure] at hv <;> try (cases hv; done)
        rename_i k i
        rw [hx] at h1; rw [hi] at h2
        obtain ⟨a, ha, hp⟩ := h1.agg_inv
        split at hv
        · rename_i hb
          obtain ⟨rv, h3, h4⟩ := part_run hd hs ha (i.toNat * s) hv w
          refine ⟨rv, ?_, h4⟩
          simp [execOp, hp, h2.int_inv, Instr.index, asIntOf, under_run ht, hb, sizeD_run hs, h3]
        · cases hv
      · cases hk
    · rename_i ht
      cases hk
      simp only [Op.operands, List.map_cons, List.map_nil] at hv
      cases hx : g x <;> simp only [hx, gpure] at hv <;> try (cases hv; done)
      rename_i s
      cases hi : g ix <;> simp only [hi, gpure] at hv <;> try (cases hv; done)
      rename_i k i
      rw [hx] at h1; rw [hi] at h2
      split at hv
      · rename_i h0
        obtain ⟨b, hb, rfl⟩ := Option.map_eq_some_iff.1 hv
        have hs : r x = .string s := by simpa only [VR] using h1
        refine ⟨.int .u8 b.toNat, ?_, by simp [VR]⟩
        simp [execOp, hs, h2.int_inv, Instr.index, asIntOf, under_run ht, h0, hb]
      · cases hv
    · cases hk
  case extract x i =>
    have h1 := hr x (by simp [Op.operands])
    cases hk
    simp only [Op.operands, List.map_cons, List.map_nil] at hv
    cases hx : g x <;> simp only [hx, gpure] at hv <;> try (cases hv; done)
    rw [hx] at h1
    obtain ⟨a, ha, hp⟩ := h1.tuple_inv
    obtain ⟨y, hy, hr'⟩ := ha.get hv
    exact ⟨y, by simp [execOp, hp, Instr.extract, hy], hr'⟩
  case nilCheck x =>
    have h1 := hr x (by simp [Op.operands])
    cases hk
    simp only [Op.operands, List.map_cons, List.map_nil] at hv
    cases hx : g x <;> simp only [hx, gpure] at hv <;> try (cases hv; done)
    all_goals
      rw [hx] at h1
      cases hv
      have h2 := h1
    · obtain ⟨a, ha⟩ := h1.ptr_shape; exact ⟨_, by simp [execOp, ha]; rfl, by rw [← ha]; exact h2⟩
    · obtain ⟨a, ha⟩ := h1.map_shape; exact ⟨_, by simp [execOp, ha]; rfl, by rw [← ha]; exact h2⟩
    · obtain ⟨a, b, ha⟩ := h1.func_shape; exact ⟨_, by simp [execOp, ha]; rfl, by rw [← ha]; exact h2⟩
    · obtain ⟨a, b, vs, ha, _⟩ := h1.fptr_inv; exact ⟨_, by simp [execOp, ha]; rfl, by rw [← ha]; exact h2⟩
  case call c =>
    obtain ⟨callee, args, ats⟩ := c
    cases callee with
    | value f => simp at hk
    | invoke rcv m => simp at hk
    | builtin b =>
      have hops : (Op.call ⟨.builtin b, args, ats⟩).operands = args := by simp [Op.operands, Call.operands]
      rw [hops] at hv
      rw [hops] at hr
      have hvs : VRs ρ (args.toList.map g) (args.toList.map r) := by
        refine VRs.mk (by simp) fun i x hx => ?_
        simp only [List.getElem?_map, Option.map_eq_some_iff] at hx ⊢
        obtain ⟨y, hy, rfl⟩ := hx
        exact ⟨r y, ⟨y, hy, rfl⟩, hr y (by simpa using List.mem_of_getElem? hy)⟩
      have hex : ∀ rv, (builtin b ats type (args.map fun | .const _ => true | _ => false) (args.map r)).run P w = .ok (.value rv) w → (execOp r ⟨dst, .call ⟨.builtin b, args, ats⟩, type, pos, after, guard⟩).run P w = .ok (.value rv) w := fun rv h => h
      have harr : args.map r = (args.toList.map r).toArray := by rw [← Array.toList_map]
      generalize hG : args.toList.map g = G at hv hvs
      generalize hR : args.toList.map r = R at hvs harr
      cases b <;> simp only at hk <;> try (cases hk; done)
      case len =>
        split at hk
        · rename_i t ht0
          split at hk
          · rename_i e ht
            cases hk
            unfold gpure at hv
            split at hv <;> try (rename_i hpk; cases hpk; done)
            · rename_i hpk
              cases hv
              obtain ⟨y, rfl, hy⟩ := hvs.one_inv
              obtain ⟨L, a, c, hL, rfl, _⟩ := hy.slice_inv
              refine ⟨_, hex (.int .i64 _) ?_, by simp [VR]; rfl⟩
              simp [builtin, harr, Builtin.len_, ht0, under_run ht, goInt]
            · cases hv
              obtain ⟨y, rfl, hy⟩ := hvs.one_inv
              have := hy.nils_inv; subst this
              refine ⟨_, hex (.int .i64 0) ?_, by simp [VR]⟩
              simp [builtin, harr, Builtin.len_, ht0, under_run ht, goInt]
            · cases hv
              obtain ⟨y, rfl, hy⟩ := hvs.one_inv
              obtain ⟨b, o, c, a, vs, rfl, _⟩ := hy.fsl_inv
              refine ⟨_, hex (.int .i64 _) ?_, by simp [VR]; rfl⟩
              simp [builtin, harr, Builtin.len_, ht0, under_run ht, goInt]
            · cases hv
          · cases hk
        · cases hk
      case cap =>
        split at hk
        · rename_i t ht0
          split at hk
          · rename_i e ht
            cases hk
            unfold gpure at hv
            split at hv <;> try (rename_i hpk; cases hpk; done)
            · cases hv
              obtain ⟨y, rfl, hy⟩ := hvs.one_inv
              have := hy.nils_inv; subst this
              refine ⟨_, hex (.int .i64 0) ?_, by simp [VR]⟩
              simp [builtin, harr, Builtin.cap_, ht0, under_run ht, goInt]
            · cases hv
              obtain ⟨y, rfl, hy⟩ := hvs.one_inv
              obtain ⟨L, a, c, hL, rfl, _, _, g3, _⟩ := hy.slice_inv
              refine ⟨_, hex (.int .i64 c) ?_, by simp [VR, g3 _ rfl]⟩
              simp [builtin, harr, Builtin.cap_, ht0, under_run ht, goInt]
            · cases hv
          · cases hk
        · cases hk
      case max =>
        cases hk
        unfold gpure at hv
        split at hv <;> try (rename_i hpk; cases hpk; done)
        · cases hv
          obtain ⟨y, z, rfl, hy, hz⟩ := hvs.two_inv
          have := hy.int_inv; subst this
          have := hz.int_inv; subst this
          refine ⟨_, hex (.int _ _) ?_, by simp only [VR]; rfl⟩
          simp [builtin, harr, Builtin.max_, Builtin.max2]
        · cases hv
      case min =>
        cases hk
        unfold gpure at hv
        split at hv <;> try (rename_i hpk; cases hpk; done)
        · cases hv
          obtain ⟨y, z, rfl, hy, hz⟩ := hvs.two_inv
          have := hy.int_inv; subst this
          have := hz.int_inv; subst this
          refine ⟨_, hex (.int _ _) ?_, by simp only [VR]; rfl⟩
          simp [builtin, harr, Builtin.min_, Builtin.min2]
        · cases hv
end
end Go.Gh
namespace Go.Gh
open Go.RowKit
set_option linter.unusedVariables false
set_option linter.unusedSimpArgs false

theorem alloc_new (w : World) (o : Obj) : (w.alloc o).heap[w.heap.size]? = some o := by
  show (w.heap.push o)[w.heap.size]? = some o
  simp

section
variable {P : Program} {N : Nat} {w0 : World} {ρ : Ren} {σ : GS} {w : World}

def Ren.put (ρ : Ren) (id : Nat) (L : Loc) : Ren := ⟨fun i => if i = id then some L else ρ i, ρ.fz⟩
theorem Ren.put_same (ρ : Ren) (id : Nat) (L : Loc) : ρ.put id L id = some L := by simp [Ren.put]
theorem Ren.put_other (ρ : Ren) {id i : Nat} (L : Loc) (h : i ≠ id) : ρ.put id L i = ρ i := by simp [Ren.put, h]
theorem Ren.le_put {id : Nat} (h : ρ id = none) (L : Loc) : ρ.le (ρ.put id L) := by
  refine ⟨fun i M hM => ?_, fun _ _ _ h => h⟩
  by_cases hi : i = id
  · subst hi; rw [h] at hM; cases hM
  · rw [Ren.put_other _ _ hi]; exact hM
theorem Ren.le_refl (ρ : Ren) : ρ.le ρ := ⟨fun _ _ h => h, fun _ _ _ h => h⟩
theorem Ren.le_trans {a b c : Ren} (h : a.le b) (k : b.le c) : a.le c := ⟨fun i L hl => k.at_ i L (h.at_ i L hl), fun b o v hv => k.fz _ _ _ (h.fz _ _ _ hv)⟩

/-- A world that differs only in what nobody here reads. -/
structure SameMem (w w' : World) : Prop where
  heap : w'.heap = w.heap
  os : w'.os = w.os
  tape : w'.tape = w.tape
  output : w'.output = w.output
theorem SameMem.cell {w w' : World} (h : SameMem w w') (a : Addr) : w'.cell? a = w.cell? a := by simp [World.cell?, h.heap]
theorem SameMem.refl (w : World) : SameMem w w := ⟨rfl, rfl, rfl, rfl⟩
theorem SameMem.drawn (w : World) (n : Nat) : SameMem w { w with drawn := n } := ⟨rfl, rfl, rfl, rfl⟩
theorem Rel.same {w' : World} (h : Rel N w0 ρ σ w) (k : SameMem w w') : Rel N w0 ρ σ w' where
  below := ⟨k.os.trans h.below.os, k.tape.trans h.below.tape, k.output.trans h.below.output, by rw [k.heap]; exact h.below.size, fun i hi => by rw [k.heap]; exact h.below.block i hi⟩
  hN := h.hN
  dom := h.dom
  lt := fun id L hl => by rw [k.heap]; exact h.lt id L hl
  row := fun id L ro cs h1 h2 => by
    obtain ⟨a, b, c⟩ := h.row id L ro cs h1 h2
    refine ⟨fun j v hv => ?_, b, fun hro => ?_⟩
    · rw [k.cell]; exact a j v hv
    · rw [k.heap]; exact c hro
  obj := fun id L o h1 h2 hs => by rw [k.heap]; exact h.obj id L o h1 h2 hs
  disj := h.disj
  fzw := fun b o v hv => by rw [k.cell]; exact h.fzw b o v hv
  fzo := h.fzo

/-- One block alone has turned. -/
structure Touch (w : World) (b : Nat) (w' : World) : Prop where
  size : w'.heap.size = w.heap.size
  other : ∀ k, k ≠ b → w'.heap[k]? = w.heap[k]?
theorem Ext.touch {n id : Nat} {L : Loc} {w' : World} (hL : ρ id = some L) (h : Touch w L.blk w') (hl : ∀ r, w.heap[L.blk]? = some (.loop r) → ∃ r', w'.heap[L.blk]? = some (.loop r') ∧ r'.defers = r.defers) : Ext n ρ w ρ w' := by
  refine ⟨Grow.refl _ _, fun i M hM => .inl ⟨i, M, hM, rfl⟩, by rw [h.size]; exact Nat.le_refl _, fun b _ hu => h.other b fun e => hu id L hL e.symm, fun b r hr => ?_⟩
  by_cases hb : b = L.blk
  · subst hb; exact hl r hr
  · exact ⟨r, by rw [h.other b hb]; exact hr, rfl⟩
theorem Ext.same {n : Nat} {ρ' : Ren} {w1 w' : World} (h : SameMem w w1) (k : Ext n ρ w1 ρ' w') : Ext n ρ w ρ' w' :=
  ⟨k.grow, fun i M hM => by rw [← h.heap]; exact k.new i M hM, by rw [← h.heap]; exact k.size, fun b hb hu => by rw [← h.heap] at hb ⊢; exact k.frame b hb hu, fun b r hr => k.loops b r (by rw [h.heap]; exact hr)⟩
theorem Ext.laid {n id : Nat} (hid : n ≤ id) (off ext : Nat) (o : Obj) : Ext n ρ w (ρ.put id ⟨w.heap.size, off, ext⟩) (w.alloc o) := by
  refine ⟨⟨fun i hi => Ren.put_other _ _ (by omega), fun _ _ _ h => h⟩, fun i M hM => ?_, by show w.heap.size ≤ (w.heap.push o).size; simp, fun b hb _ => Below.heap_alloc w o b hb, fun b r hr => ⟨r, by rw [Below.heap_alloc w o b (Array.getElem?_eq_some_iff.1 hr).1]; exact hr, rfl⟩⟩
  by_cases hi : i = id
  · subst hi; rw [Ren.put_same] at hM; cases hM; exact .inr (Nat.le_refl _)
  · rw [Ren.put_other _ _ hi] at hM; exact .inl ⟨i, M, hM, rfl⟩

/-- A row of cells is no loop's record; nor is a map. -/
theorem Ext.row {n id : Nat} {L : Loc} {cs : List DV} {w' : World} (h : Rel N w0 ρ σ w) (hL : ρ id = some L) (hid : σ[id]? = some (.row false cs)) (ht : Touch w L.blk w') : Ext n ρ w ρ w' :=
  Ext.touch hL ht fun r hr => by
    obtain ⟨_, _, c⟩ := h.row id L false cs hL hid
    obtain ⟨_, _, cc, e, q, _⟩ := c rfl
    rw [q] at hr; cases hr
theorem Ext.mp {n id : Nat} {L : Loc} {es : List (DV × DV)} {st : List Nat × Nat} {w' : World} (h : Rel N w0 ρ σ w) (hL : ρ id = some L) (hid : σ[id]? = some (.mp es st)) (ht : Touch w L.blk w') : Ext n ρ w ρ w' :=
  Ext.touch hL ht fun r hr => by
    obtain ⟨_, rs, q, _⟩ := h.mp id L es st hL hid
    rw [q] at hr; cases hr

theorem Rel.size (h : Rel N w0 ρ σ w) : N ≤ w.heap.size := Nat.le_trans h.hN h.below.size

/-- Ghost objects are added that lie nowhere yet. -/
theorem Rel.ghosts (h : Rel N w0 ρ σ w) (os : List GObj) : Rel N w0 ρ (σ ++ os) w where
  below := h.below
  hN := h.hN
  dom := fun id L hl => by have := h.dom id L hl; simp; omega
  lt := h.lt
  row := fun id L ro cs h1 h2 => h.row id L ro cs h1 (by rwa [List.getElem?_append_left (h.dom id L h1)] at h2)
  obj := fun id L o h1 h2 hs => h.obj id L o h1 (by rwa [List.getElem?_append_left (h.dom id L h1)] at h2) hs
  disj := fun i j Li Lj hij hi hj oi oj => h.disj i j Li Lj hij hi hj
    (by unfold own at oi ⊢; rwa [List.getElem?_append_left (h.dom i Li hi)] at oi) (by unfold own at oj ⊢; rwa [List.getElem?_append_left (h.dom j Lj hj)] at oj)
  fzw := h.fzw
  fzo := fun b o v i L hv hi oi => h.fzo b o v i L hv hi (by unfold own at oi ⊢; rwa [List.getElem?_append_left (h.dom i L hi)] at oi)

theorem Rel.fz_lt (h : Rel N w0 ρ σ w) {b o : Nat} {v : Value} (hv : ρ.fz b o = some v) : b < w.heap.size := World.block_lt_of_cell? w _ (h.fzw b o v hv)
theorem cell_of_block {w w' : World} {b : Nat} (h : w'.heap[b]? = w.heap[b]?) (o : Nat) : w'.cell? ⟨b, o, none⟩ = w.cell? ⟨b, o, none⟩ := World.cell?_of_block (w := w) h
theorem CellsR.lt {L : Loc} {cs : List DV} (h : CellsR ρ w L cs) {j : Nat} {v : DV} (hv : cs[j]? = some v) : L.blk < w.heap.size := by
  obtain ⟨rv, h1, _⟩ := h j v hv
  exact World.block_lt_of_cell? w _ h1

/-- A ghost row that lay nowhere is laid at the end of the heap. -/
theorem Rel.lay_row (h : Rel N w0 ρ σ w) {id : Nat} {cs : List DV} (hid : σ[id]? = some (.row false cs)) (hn : ρ id = none) {cells : Array Value} (hc : ∀ (j : Nat) (v : DV), cs[j]? = some v → ∃ rv, cells[j]? = some rv ∧ VR ρ v rv)
    (hl : cs.length ≤ cells.size) (e : TypeId) : Rel N w0 (ρ.put id ⟨w.heap.size, 0, cells.size⟩) σ (w.alloc (.cells cells e (0, 0))) where
  below := h.below.alloc h.size _
  hN := h.hN
  dom := fun i L hi => by
    by_cases hii : i = id
    · subst hii
      rcases Nat.lt_or_ge i σ.length with hlt | hge
      · exact hlt
      · rw [List.getElem?_eq_none hge] at hid; cases hid
    · rw [Ren.put_other _ _ hii] at hi; exact h.dom i L hi
  lt := fun i L hi => by
    by_cases hii : i = id
    · subst hii; rw [Ren.put_same] at hi; cases hi; simp
    · rw [Ren.put_other _ _ hii] at hi; have := h.lt i L hi; simp; omega
  row := fun i L ro cs' h1 h2 => by
    by_cases hii : i = id
    · subst hii
      rw [Ren.put_same] at h1; cases h1
      rw [hid] at h2; cases h2
      refine ⟨fun j v hv => ?_, fun hro => (by cases hro), fun _ => ⟨h.size, hl, cells, e, alloc_new w _, by simp⟩⟩
      obtain ⟨rv, q1, q2⟩ := hc j v hv
      refine ⟨rv, ?_, VR.mono (Ren.le_put hn _) _ _ q2⟩
      show World.cell? (w.alloc _) ⟨w.heap.size, 0 + j, none⟩ = _
      rw [Nat.zero_add]
      simp only [World.cell?, alloc_new w _]
      exact q1
    · rw [Ren.put_other _ _ hii] at h1
      obtain ⟨a, b, c⟩ := h.row i L ro cs' h1 h2
      refine ⟨fun j v hv => ?_, fun hro j v hv => let ⟨rv, g1, g2⟩ := b hro j v hv; ⟨rv, g1, VR.mono (Ren.le_put hn _) _ _ g2⟩, fun hro => ?_⟩
      · obtain ⟨rv, q1, q2⟩ := a j v hv
        refine ⟨rv, ?_, VR.mono (Ren.le_put hn _) _ _ q2⟩
        rw [cell_of_block (Below.heap_alloc w _ _ (a.lt hv))]; exact q1
      · obtain ⟨q1, q2, cc, e', q3, q4⟩ := c hro
        exact ⟨q1, q2, cc, e', by rw [Below.heap_alloc w _ _ (Array.getElem?_eq_some_iff.1 q3).1]; exact q3, q4⟩
  obj := fun i L o h1 h2 hs => by
    by_cases hii : i = id
    · subst hii; rw [hid] at h2; cases h2; cases hs
    · rw [Ren.put_other _ _ hii] at h1
      obtain ⟨a, x, b, c⟩ := h.obj i L o h1 h2 hs
      exact ⟨a, x, by rw [Below.heap_alloc w _ _ (Array.getElem?_eq_some_iff.1 b).1]; exact b, c.mono (Ren.le_put hn _)⟩
  disj := fun i j Li Lj hij hi hj oi oj => by
    have lt : ∀ k L, k ≠ id → ρ k = some L → own σ k → L.blk < w.heap.size := by
      intro k L hk hkL ok
      rcases ok with ⟨cs', hcs⟩ | ⟨o, ho, hs⟩
      · obtain ⟨_, _, c⟩ := h.row k L false cs' hkL hcs
        obtain ⟨_, _, cc, e', q3, _⟩ := c rfl
        exact (Array.getElem?_eq_some_iff.1 q3).1
      · obtain ⟨_, x, b, _⟩ := h.obj k L o hkL ho hs
        exact (Array.getElem?_eq_some_iff.1 b).1
    by_cases hii : i = id
    · subst hii
      rw [Ren.put_same] at hi; cases hi
      have hj' : j ≠ i := fun e => hij e.symm
      rw [Ren.put_other _ _ hj'] at hj
      have := lt j Lj hj' hj oj
      simp only; omega
    · rw [Ren.put_other _ _ hii] at hi
      by_cases hjj : j = id
      · subst hjj
        rw [Ren.put_same] at hj; cases hj
        have := lt i Li hii hi oi
        simp only; omega
      · rw [Ren.put_other _ _ hjj] at hj
        exact h.disj i j Li Lj hij hi hj oi oj
  fzw := fun b o v hv => by rw [cell_of_block (Below.heap_alloc w _ _ (h.fz_lt hv))]; exact h.fzw b o v hv
  fzo := fun b o v i L hv hi oi => by
    by_cases hii : i = id
    · subst hii; rw [Ren.put_same] at hi; cases hi; have := h.fz_lt hv; simp only; omega
    · rw [Ren.put_other _ _ hii] at hi; exact h.fzo b o v i L hv hi oi

/-- A ghost object of another kind that lay nowhere is laid at the end of the heap. -/
theorem Rel.lay_obj (h : Rel N w0 ρ σ w) {id : Nat} {o : GObj} (hid : σ[id]? = some o) (hn : ρ id = none) (hsp : o.special = true) {x : Obj} (hx : ObjR ρ ⟨w.heap.size, 0, 0⟩ o x) : Rel N w0 (ρ.put id ⟨w.heap.size, 0, 0⟩) σ (w.alloc x) where
  below := h.below.alloc h.size _
  hN := h.hN
  dom := fun i L hi => by
    by_cases hii : i = id
    · subst hii
      rcases Nat.lt_or_ge i σ.length with hlt | hge
      · exact hlt
      · rw [List.getElem?_eq_none hge] at hid; cases hid
    · rw [Ren.put_other _ _ hii] at hi; exact h.dom i L hi
  lt := fun i L hi => by
    by_cases hii : i = id
    · subst hii; rw [Ren.put_same] at hi; cases hi; simp
    · rw [Ren.put_other _ _ hii] at hi; have := h.lt i L hi; simp; omega
  row := fun i L ro cs' h1 h2 => by
    by_cases hii : i = id
    · subst hii; rw [hid] at h2; cases h2; cases hsp
    · rw [Ren.put_other _ _ hii] at h1
      obtain ⟨a, b, c⟩ := h.row i L ro cs' h1 h2
      refine ⟨fun j v hv => ?_, fun hro j v hv => let ⟨rv, g1, g2⟩ := b hro j v hv; ⟨rv, g1, VR.mono (Ren.le_put hn _) _ _ g2⟩, fun hro => ?_⟩
      · obtain ⟨rv, q1, q2⟩ := a j v hv
        refine ⟨rv, ?_, VR.mono (Ren.le_put hn _) _ _ q2⟩
        rw [cell_of_block (Below.heap_alloc w _ _ (a.lt hv))]; exact q1
      · obtain ⟨q1, q2, cc, e', q3, q4⟩ := c hro
        exact ⟨q1, q2, cc, e', by rw [Below.heap_alloc w _ _ (Array.getElem?_eq_some_iff.1 q3).1]; exact q3, q4⟩
  obj := fun i L o' h1 h2 hs => by
    by_cases hii : i = id
    · subst hii
      rw [Ren.put_same] at h1; cases h1
      rw [hid] at h2; cases h2
      exact ⟨h.size, x, alloc_new w _, hx.mono (Ren.le_put hn _)⟩
    · rw [Ren.put_other _ _ hii] at h1
      obtain ⟨a, x', b, c⟩ := h.obj i L o' h1 h2 hs
      exact ⟨a, x', by rw [Below.heap_alloc w _ _ (Array.getElem?_eq_some_iff.1 b).1]; exact b, c.mono (Ren.le_put hn _)⟩
  disj := fun i j Li Lj hij hi hj oi oj => by
    have lt : ∀ k L, k ≠ id → ρ k = some L → own σ k → L.blk < w.heap.size := by
      intro k L hk hkL ok
      rcases ok with ⟨cs', hcs⟩ | ⟨o, ho, hs⟩
      · obtain ⟨_, _, c⟩ := h.row k L false cs' hkL hcs
        obtain ⟨_, _, cc, e', q3, _⟩ := c rfl
        exact (Array.getElem?_eq_some_iff.1 q3).1
      · obtain ⟨_, x, b, _⟩ := h.obj k L o hkL ho hs
        exact (Array.getElem?_eq_some_iff.1 b).1
    by_cases hii : i = id
    · subst hii
      rw [Ren.put_same] at hi; cases hi
      have hj' : j ≠ i := fun e => hij e.symm
      rw [Ren.put_other _ _ hj'] at hj
      have := lt j Lj hj' hj oj
      simp only; omega
    · rw [Ren.put_other _ _ hii] at hi
      by_cases hjj : j = id
      · subst hjj
        rw [Ren.put_same] at hj; cases hj
        have := lt i Li hii hi oi
        simp only; omega
      · rw [Ren.put_other _ _ hjj] at hj
        exact h.disj i j Li Lj hij hi hj oi oj
  fzw := fun b o v hv => by rw [cell_of_block (Below.heap_alloc w _ _ (h.fz_lt hv))]; exact h.fzw b o v hv
  fzo := fun b o v i L hv hi oi => by
    by_cases hii : i = id
    · subst hii; rw [Ren.put_same] at hi; cases hi; have := h.fz_lt hv; simp only; omega
    · rw [Ren.put_other _ _ hii] at hi; exact h.fzo b o v i L hv hi oi

/-- A block that is no ghost object's is laid. -/
theorem Rel.junk (h : Rel N w0 ρ σ w) (o : Obj) : Rel N w0 ρ σ (w.alloc o) where
  below := h.below.alloc h.size _
  hN := h.hN
  dom := h.dom
  lt := fun i L hi => by have := h.lt i L hi; simp; omega
  row := fun i L ro cs h1 h2 => by
    obtain ⟨a, b, c⟩ := h.row i L ro cs h1 h2
    refine ⟨fun j v hv => ?_, b, fun hro => ?_⟩
    · rw [cell_of_block (Below.heap_alloc w _ _ (h.lt i L h1))]; exact a j v hv
    · rw [Below.heap_alloc w _ _ (h.lt i L h1)]; exact c hro
  obj := fun i L o' h1 h2 hs => by rw [Below.heap_alloc w _ _ (h.lt i L h1)]; exact h.obj i L o' h1 h2 hs
  disj := h.disj
  fzw := fun b o v hv => by rw [cell_of_block (Below.heap_alloc w _ _ (h.fz_lt hv))]; exact h.fzw b o v hv
  fzo := h.fzo
theorem Ext.junk {n : Nat} (o : Obj) : Ext n ρ w ρ (w.alloc o) :=
  ⟨Grow.refl _ _, fun i M hM => .inl ⟨i, M, hM, rfl⟩, by show w.heap.size ≤ (w.heap.push o).size; simp, fun b hb _ => Below.heap_alloc w o b hb, fun b r hr => ⟨r, by rw [Below.heap_alloc w o b (Array.getElem?_eq_some_iff.1 hr).1]; exact hr, rfl⟩⟩
/-- A block that is no ghost object's has turned. -/
theorem Rel.other {b : Nat} {w' : World} (h : Rel N w0 ρ σ w) (hu : ∀ i M, ρ i = some M → M.blk ≠ b) (hb : N ≤ b) (hnc : ∀ o, w.cell? ⟨b, o, none⟩ = none) (ht : Touch w b w') (hs : w'.os = w.os ∧ w'.tape = w.tape ∧ w'.output = w.output) : Rel N w0 ρ σ w' where
  below := h.below.trans ⟨hs.1, hs.2.1, hs.2.2, by rw [ht.size]; exact Nat.le_refl _, fun k hk => ht.other k (by omega)⟩
  hN := h.hN
  dom := h.dom
  lt := fun i L hi => by rw [ht.size]; exact h.lt i L hi
  row := fun i L ro cs h1 h2 => by
    obtain ⟨a, b, c⟩ := h.row i L ro cs h1 h2
    refine ⟨fun j v hv => ?_, b, fun hro => ?_⟩
    · rw [cell_of_block (ht.other _ (hu i L h1))]; exact a j v hv
    · rw [ht.other _ (hu i L h1)]; exact c hro
  obj := fun i L o' h1 h2 hs => by rw [ht.other _ (hu i L h1)]; exact h.obj i L o' h1 h2 hs
  disj := h.disj
  fzw := fun k o v hv => by
    have hk : k ≠ b := by rintro rfl; have := h.fzw _ _ _ hv; rw [hnc] at this; cases this
    rw [cell_of_block (ht.other _ hk)]; exact h.fzw k o v hv
  fzo := h.fzo

theorem getElem?_set_ne {σ : GS} {id i : Nat} (o : GObj) (h : i ≠ id) : (σ.set id o)[i]? = σ[i]? := List.getElem?_set_ne (Ne.symm h)
theorem own_of_set {id i : Nat} {o : GObj} (h : i ≠ id) (ho : own (σ.set id o) i) : own σ i := by
  unfold own at ho ⊢; rwa [getElem?_set_ne o h] at ho

/-- A row of the call's own is written. -/
theorem Rel.write (h : Rel N w0 ρ σ w) {id : Nat} {L : Loc} {cs cs' : List DV} (hL : ρ id = some L) (hid : σ[id]? = some (.row false cs)) {cur cur' : Array Value} {t : TypeId} (hg : w.heap[L.blk]? = some (.cells cur t (0, 0)))
    (hsz : cur'.size = cur.size) (hc : ∀ (j : Nat) (v : DV), cs'[j]? = some v → ∃ rv, cur'[L.off + j]? = some rv ∧ VR ρ v rv) (hl : cs'.length ≤ L.ext) : Rel N w0 ρ (σ.set id (.row false cs')) (w.setRow L.blk cur') := by
  obtain ⟨a, b, c⟩ := h.row id L false cs hL hid
  obtain ⟨hNL, hle, cc, e', q3, q4⟩ := c rfl
  rw [hg] at q3; cases q3
  have hfz : ∀ b o v, ρ.fz b o = some v → b ≠ L.blk := fun b o v hv e => h.fzo b o v id L hv hL (.inl ⟨_, hid⟩) e.symm
  refine ⟨below_setRow h.below hNL _, h.hN, fun i L' hi => by simpa using h.dom i L' hi, fun i L' hi => by simpa using h.lt i L' hi, ?_, ?_, ?_, fun b o v hv => by rw [cell_of_block (setRow_other w _ _ _ (hfz b o v hv))]; exact h.fzw b o v hv, fun b o v i L' hv hi oi => ?_⟩
  · intro i L' ro cs2 h1 h2
    by_cases hii : i = id
    · subst hii
      rw [hL] at h1; cases h1
      rw [List.getElem?_set_self (h.dom _ _ hL)] at h2; cases h2
      refine ⟨fun j v hv => ?_, fun hro => (by cases hro), fun _ => ⟨hNL, hl, cur', t, setRow_heap w _ _ _ _ _ hg, by omega⟩⟩
      obtain ⟨rv, g1, g2⟩ := hc j v hv
      refine ⟨rv, ?_, g2⟩
      simp only [World.cell?, setRow_heap w _ _ cur' _ _ hg]
      exact g1
    · rw [getElem?_set_ne _ hii] at h2
      obtain ⟨a', b', c'⟩ := h.row i L' ro cs2 h1 h2
      refine ⟨fun j v hv => ?_, b', fun hro => ?_⟩
      · have hne : L'.blk ≠ L.blk := by
          cases ro with
          | true => obtain ⟨rv, g1, _⟩ := b' rfl j v hv; exact hfz _ _ _ g1
          | false => exact h.disj i id L' L hii h1 hL (.inl ⟨_, h2⟩) (.inl ⟨_, hid⟩)
        rw [cell_of_block (setRow_other w _ _ _ hne)]; exact a' j v hv
      · subst hro
        rw [setRow_other w _ _ _ (h.disj i id L' L hii h1 hL (.inl ⟨_, h2⟩) (.inl ⟨_, hid⟩))]; exact c' rfl
  · intro i L' o h1 h2 hs
    by_cases hii : i = id
    · subst hii; rw [List.getElem?_set_self (h.dom _ _ hL)] at h2; cases h2; cases hs
    · rw [getElem?_set_ne _ hii] at h2
      have hne : L'.blk ≠ L.blk := h.disj i id L' L hii h1 hL (.inr ⟨_, h2, hs⟩) (.inl ⟨_, hid⟩)
      rw [setRow_other w _ _ _ hne]
      exact h.obj i L' o h1 h2 hs
  · intro i j Li Lj hij hi hj oi oj
    have oi' : own σ i := by
      by_cases hii : i = id
      · subst hii; exact .inl ⟨_, hid⟩
      · exact own_of_set hii oi
    have oj' : own σ j := by
      by_cases hjj : j = id
      · subst hjj; exact .inl ⟨_, hid⟩
      · exact own_of_set hjj oj
    exact h.disj i j Li Lj hij hi hj oi' oj'
  · refine h.fzo b o v i L' hv hi ?_
    by_cases hii : i = id
    · subst hii; exact .inl ⟨_, hid⟩
    · exact own_of_set hii oi

/-- A row's beginning is handed on to a new ghost object, which lies where the old one lay; the old one is gone. -/
theorem Rel.move (h : Rel N w0 ρ σ w) {id : Nat} {L : Loc} {cs : List DV} (hL : ρ id = some L) (hid : σ[id]? = some (.row false cs)) (off : Nat) (hoff : off ≤ L.ext) (k : Nat) (hk : k ≤ L.ext - off) :
    Rel N w0 (ρ.put σ.length ⟨L.blk, L.off + off, L.ext - off⟩) (σ.set id .dead ++ [.row false ((cs.drop off).take k)]) w := by
  obtain ⟨a, b, c⟩ := h.row id L false cs hL hid
  obtain ⟨hNL, hle, cc, e', q3, q4⟩ := c rfl
  have hidlt := h.dom _ _ hL
  have hnone : ρ σ.length = none := by
    cases hq : ρ σ.length with
    | none => rfl
    | some M => have := h.dom _ _ hq; omega
  have old : ∀ i, i ≠ σ.length → i < σ.length → (σ.set id GObj.dead ++ [GObj.row false ((cs.drop off).take k)])[i]? = (σ.set id .dead)[i]? := fun i _ hi => List.getElem?_append_left (by simpa using hi)
  have new : (σ.set id GObj.dead ++ [GObj.row false ((cs.drop off).take k)])[σ.length]? = some (.row false ((cs.drop off).take k)) := by simp
  have ownold : ∀ i L', i ≠ σ.length → ρ i = some L' → own (σ.set id GObj.dead ++ [GObj.row false ((cs.drop off).take k)]) i → i ≠ id ∧ own σ i := by
    intro i L' hi hL' ho
    unfold own at ho
    rw [old i hi (h.dom _ _ hL')] at ho
    by_cases hii : i = id
    · subst hii; rw [List.getElem?_set_self hidlt] at ho; simp [GObj.special] at ho
    · exact ⟨hii, own_of_set (o := .dead) hii ho⟩
  refine ⟨h.below, h.hN, ?_, ?_, ?_, ?_, ?_, h.fzw, ?_⟩
  · intro i L' hi
    by_cases hii : i = σ.length
    · subst hii; simp
    · rw [Ren.put_other _ _ hii] at hi; have := h.dom i L' hi; simp; omega
  · intro i L' hi
    by_cases hii : i = σ.length
    · subst hii; rw [Ren.put_same] at hi; cases hi; exact h.lt id L hL
    · rw [Ren.put_other _ _ hii] at hi; exact h.lt i L' hi
  · intro i L' ro cs2 h1 h2
    by_cases hii : i = σ.length
    · subst hii
      rw [Ren.put_same] at h1; cases h1
      rw [new] at h2; cases h2
      refine ⟨fun j v hv => ?_, fun hro => (by cases hro), fun _ => ⟨hNL, by simp; omega, cc, e', q3, by simp only; omega⟩⟩
      rw [List.getElem?_take] at hv
      split at hv
      · rw [List.getElem?_drop] at hv
        obtain ⟨rv, g1, g2⟩ := a (off + j) v hv
        exact ⟨rv, by rw [← g1]; simp [Nat.add_assoc], VR.mono (Ren.le_put hnone _) _ _ g2⟩
      · cases hv
    · rw [Ren.put_other _ _ hii] at h1
      rw [old i hii (h.dom _ _ h1)] at h2
      by_cases hid' : i = id
      · subst hid'; rw [List.getElem?_set_self hidlt] at h2; cases h2
      · rw [getElem?_set_ne _ hid'] at h2
        obtain ⟨a', b', c'⟩ := h.row i L' ro cs2 h1 h2
        exact ⟨a'.mono (Ren.le_put hnone _), fun hro j v hv => let ⟨rv, g1, g2⟩ := b' hro j v hv; ⟨rv, g1, VR.mono (Ren.le_put hnone _) _ _ g2⟩, c'⟩
  · intro i L' o h1 h2 hs
    by_cases hii : i = σ.length
    · subst hii; rw [new] at h2; cases h2; cases hs
    · rw [Ren.put_other _ _ hii] at h1
      rw [old i hii (h.dom _ _ h1)] at h2
      by_cases hid' : i = id
      · subst hid'; rw [List.getElem?_set_self hidlt] at h2; cases h2; cases hs
      · rw [getElem?_set_ne _ hid'] at h2
        obtain ⟨g1, x, g2, g3⟩ := h.obj i L' o h1 h2 hs
        exact ⟨g1, x, g2, g3.mono (Ren.le_put hnone _)⟩
  · intro i j Li Lj hij hi hj oi oj
    by_cases hii : i = σ.length
    · subst hii
      rw [Ren.put_same] at hi; cases hi
      have hj' : j ≠ σ.length := fun e => hij e.symm
      rw [Ren.put_other _ _ hj'] at hj
      obtain ⟨g1, g2⟩ := ownold j Lj hj' hj oj
      exact fun e => h.disj j id Lj L g1 hj hL g2 (.inl ⟨_, hid⟩) e.symm
    · rw [Ren.put_other _ _ hii] at hi
      obtain ⟨g1, g2⟩ := ownold i Li hii hi oi
      by_cases hjj : j = σ.length
      · subst hjj
        rw [Ren.put_same] at hj; cases hj
        exact h.disj i id Li L g1 hi hL g2 (.inl ⟨_, hid⟩)
      · rw [Ren.put_other _ _ hjj] at hj
        obtain ⟨g3, g4⟩ := ownold j Lj hjj hj oj
        exact h.disj i j Li Lj hij hi hj g2 g4
  · intro bb o v i Li hv hi oi
    by_cases hii : i = σ.length
    · subst hii
      rw [Ren.put_same] at hi; cases hi
      exact h.fzo bb o v id L hv hL (.inl ⟨_, hid⟩)
    · rw [Ren.put_other _ _ hii] at hi
      exact h.fzo bb o v i Li hv hi (ownold i Li hii hi oi).2
end
end Go.Gh
namespace Go.Gh
open Go.RowKit
set_option linter.unusedVariables false
set_option linter.unusedSimpArgs false

/-- Kinds of keys. -/
inductive KT where
  | int (k : IntKind) | arr2 (k : IntKind)
  deriving DecidableEq
def ktOf (P : Program) (t : TypeId) : Option KT :=
  match P.underlying t with
  | some (.int k) => some (.int k)
  | some (.array 2 e) => match P.underlying e, sizeD P e with
    | some (.int k), some 1 => some (.arr2 k)
    | _, _ => none
  | _ => none
/-- Are two keys of a kind the same? -/
def keyEq : KT → DV → DV → Option Bool
  | .int k, .int i a, .int j b => if i = k ∧ j = k then some (a == b) else none
  | .arr2 k, .agg [.int i a, .int i' a'], .agg [.int j b, .int j' b'] => if i = k ∧ i' = k ∧ j = k ∧ j' = k then some (a == b && a' == b') else none
  | _, _, _ => none
def keyFits : KT → DV → Bool
  | .int k, .int i _ => i = k
  | .arr2 k, .agg [.int i _, .int i' _] => i = k ∧ i' = k
  | _, _ => false
def gfind (kt : KT) (key : DV) : List (DV × DV) → Nat → Option (Option (Nat × DV))
  | [], _ => some none
  | (k, v) :: es, i => match keyEq kt key k with
    | some true => some (some (i, v))
    | some false => gfind kt key es (i + 1)
    | none => none

theorem keyEq_arr2 {k : IntKind} {x y : DV} {b : Bool} (h : keyEq (.arr2 k) x y = some b) : ∃ a a' c c', x = .agg [.int k a, .int k a'] ∧ y = .agg [.int k c, .int k c'] ∧ b = (a == c && a' == c') := by
  generalize hK : KT.arr2 k = K at h
  unfold keyEq at h
  split at h
  · cases hK
  · cases hK
    split at h
    · rename_i hh
      obtain ⟨rfl, rfl, rfl, rfl⟩ := hh
      cases h
      exact ⟨_, _, _, _, rfl, rfl, rfl⟩
    · cases h
  · cases h

section
variable {P : Program} {N : Nat} {w0 : World} {ρ : Ren} {σ : GS} {w : World}
theorem checkKey_run {t : TypeId} {kt : KT} (hk : ktOf P t = some kt) {key : DV} (hf : keyFits kt key = true) {v : Value} (hv : VR ρ key v) (emp : Bool) (w : World) : (Instr.checkKey emp 10000 t v).run P w = .ok () w := by
  have e1 : Instr.checkKey emp 10000 t v = Instr.checkKey emp (9998 + 1 + 1) t v := rfl
  rw [e1]
  generalize 9998 = dep
  unfold ktOf at hk
  split at hk
  · rename_i k ht
    cases hk
    cases key <;> simp only [keyFits] at hf <;> try (cases hf; done)
    rw [hv.int_inv]
    simp [Instr.checkKey, under_run ht]
  · rename_i e ht
    split at hk
    · rename_i k he hs
      cases hk
      unfold keyFits at hf
      split at hf
      · rename_i hkk; cases hkk
      · rename_i k' i a i' b hkk
        cases hkk
        obtain ⟨l, hl, rfl⟩ := hv.agg_inv
        rw [hl.two_ints]
        have hp0 : ∀ {i i' : IntKind} (x y : Int), (part e #[.int i x, .int i' y] (0 * 1)).run P w = .ok (.int i x) w := by
          intro i i' x y; simp [part, isAgg_run he, isAggD]
        have hp1 : ∀ {i i' : IntKind} (x y : Int), (part e #[.int i x, .int i' y] (1 * 1)).run P w = .ok (.int i' y) w := by
          intro i i' x y; simp [part, isAgg_run he, isAggD]
        have hin : ∀ (i : IntKind) (x : Int), (Instr.checkKey emp (dep + 1) e (.int i x)).run P w = .ok () w := by
          intro i x; simp [Instr.checkKey, under_run he]
        rw [Instr.checkKey]
        simp only [Sem.run_bind, under_run ht, Result.andThen_ok]
        rw [Std.Legacy.Range.forIn_eq_forIn_range']
        simp only [Std.Legacy.Range.size, List.range', List.forIn_cons, List.forIn_nil, Nat.reduceAdd, Nat.reduceSub, Nat.reduceDiv, Nat.zero_add]
        simp [hp0, hp1, hin, sizeD_run hs]
      · cases hf
    · cases hk
  · cases hk

/-- How an entry that was found reads. -/
def FoundR (ρ : Ren) : Option (Nat × DV) → Option (Nat × Value) → Prop
  | none, none => True
  | some (i, d), some (j, v) => i = j ∧ VR ρ d v
  | _, _ => False
theorem findKey_run {t : TypeId} {kt : KT} (hk : ktOf P t = some kt) {key : DV} {v : Value} (hv : VR ρ key v) : ∀ {es : List (DV × DV)} {rs : List MapEntry}, MapR ρ es rs → ∀ {r : Option (Nat × DV)}, gfind kt key es 0 = some r →
    ∀ w : World, ∃ r', (Instr.findKey t v rs).run P w = .ok r' w ∧ FoundR ρ r r' := by
  have hk0 := hk
  unfold ktOf at hk
  split at hk
  · -- whole numbers
    rename_i k ht
    cases hk
    have now : ∀ {es : List (DV × DV)} {rs : List MapEntry} (i : Nat), MapR ρ es rs → ∀ {r : Option (Nat × DV)}, gfind (.int k) key es i = some r → ∃ r', Instr.findNow (.int k) v rs i = some r' ∧ FoundR ρ r r' := by
      intro es
      induction es with
      | nil => intro rs i hm r hr; simp only [MapR] at hm; subst hm; simp [gfind] at hr; subst hr; exact ⟨none, rfl, trivial⟩
      | cons e es ih =>
        obtain ⟨ek, ev⟩ := e
        intro rs i hm r hr
        obtain ⟨re, rl, rfl, h1, h2, h3⟩ := hm
        simp only [gfind] at hr
        cases key with
        | int ki a =>
          cases ek with
          | int kj b =>
            simp only [keyEq] at hr
            rw [hv.int_inv]
            have hre : re.key = .int kj b := h1.int_inv
            by_cases hkk : ki = k ∧ kj = k
            · obtain ⟨rfl, rfl⟩ := hkk
              simp only [true_and, and_self, if_true] at hr
              simp only [Instr.findNow, hre, Instr.sameNow, if_true]
              split at hr
              · rename_i hab
                cases hr
                simp only [Option.some.injEq] at hab
                rw [hab]
                exact ⟨_, rfl, rfl, h2⟩
              · rename_i hab
                simp only [Option.some.injEq] at hab
                rw [hab]
                rw [hv.int_inv] at ih
                exact ih (i + 1) h3 hr
              · rename_i hab; cases hab
            · rw [if_neg hkk] at hr; cases hr
          | _ => simp [keyEq] at hr
        | _ => simp [keyEq] at hr
    intro es rs hm r hr w
    obtain ⟨r', h1, h2⟩ := now 0 hm hr
    exact ⟨r', by simp [Instr.findKey, under_run ht, h1], h2⟩
  · -- pairs of whole numbers
    rename_i e ht
    split at hk
    · rename_i k he hs
      cases hk
      have ask : ∀ {es : List (DV × DV)} {rs : List MapEntry} (i : Nat), MapR ρ es rs → ∀ {r : Option (Nat × DV)}, gfind (.arr2 k) key es i = some r → ∀ w : World, ∃ r', (Instr.findAsking t v rs i).run P w = .ok r' w ∧ FoundR ρ r r' := by
        intro es
        induction es with
        | nil => intro rs i hm r hr w; simp only [MapR] at hm; subst hm; simp [gfind] at hr; subst hr; exact ⟨none, rfl, trivial⟩
        | cons e' es ih =>
          obtain ⟨ek, ev⟩ := e'
          intro rs i hm r hr w
          obtain ⟨re, rl, rfl, h1, h2, h3⟩ := hm
          simp only [gfind] at hr
          split at hr
          · rename_i hab
            cases hr
            obtain ⟨a, a', c, c', rfl, rfl, hb⟩ := keyEq_arr2 hab
            obtain ⟨l, hl, rfl⟩ := hv.agg_inv
            obtain ⟨l', hl', hre⟩ := h1.agg_inv
            rw [hl.two_ints]
            refine ⟨some (i, re.val), ?_, rfl, h2⟩
            have hq := equal_arr2 (P := P) ht he hs a a' c c' w
            simp only [Instr.findAsking, hre, hl'.two_ints, Sem.run_bind]
            rw [hq, ← hb]
            rfl
          · rename_i hab
            obtain ⟨a, a', c, c', rfl, rfl, hb⟩ := keyEq_arr2 hab
            obtain ⟨l, hl, rfl⟩ := hv.agg_inv
            obtain ⟨l', hl', hre⟩ := h1.agg_inv
            have hq := equal_arr2 (P := P) ht he hs a a' c c' w
            obtain ⟨r', g1, g2⟩ := ih (i + 1) h3 hr w
            refine ⟨r', ?_, g2⟩
            rw [hl.two_ints] at g1 ⊢
            simp only [Instr.findAsking, hre, hl'.two_ints, Sem.run_bind]
            rw [hq, ← hb]
            exact g1
          · cases hr
      intro es rs hm r hr w
      have h0 := ask 0 hm hr w
      cases rs with
      | nil =>
        refine ⟨none, by simp [Instr.findKey, under_run ht, Instr.findNow], ?_⟩
        cases es with
        | nil => simp [gfind] at hr; subst hr; trivial
        | cons a b => obtain ⟨_, _, h, _⟩ := hm; cases h
      | cons a b =>
        obtain ⟨r', h1, h2⟩ := h0
        refine ⟨r', ?_, h2⟩
        have hn : Instr.sameNow (.array 2 e) v a.key = none := by cases v <;> rfl
        simp [Instr.findKey, under_run ht, Instr.findNow, hn, h1]
    · cases hk
  · cases hk
end
end Go.Gh
namespace Go.Gh
open Go.RowKit
set_option linter.unusedVariables false
set_option linter.unusedSimpArgs false

section
variable {P : Program} {N : Nat} {w0 : World} {ρ : Ren} {σ : GS} {w : World}
theorem MapR.length : ∀ {es : List (DV × DV)} {rs : List MapEntry}, MapR ρ es rs → rs.length = es.length
  | [], _, h => by simp only [MapR] at h; subst h; rfl
  | (k, v) :: es, _, ⟨e, l, h1, _, _, h4⟩ => by subst h1; simp [MapR.length h4]
theorem MapR.get : ∀ {es : List (DV × DV)} {rs : List MapEntry}, MapR ρ es rs → ∀ {i : Nat} {k v : DV}, es[i]? = some (k, v) → ∃ e, rs[i]? = some e ∧ VR ρ k e.key ∧ VR ρ v e.val
  | [], _, h, i, k, v, hi => by simp at hi
  | (k', v') :: es, _, ⟨e, l, h1, h2, h3, h4⟩, i, k, v, hi => by
    subst h1
    cases i with
    | zero => simp at hi; obtain ⟨rfl, rfl⟩ := hi; exact ⟨e, rfl, h2, h3⟩
    | succ i => simp at hi; simpa using MapR.get h4 hi
theorem MapR.append : ∀ {es fs : List (DV × DV)} {rs ss : List MapEntry}, MapR ρ es rs → MapR ρ fs ss → MapR ρ (es ++ fs) (rs ++ ss)
  | [], fs, _, ss, h, k => by simp only [MapR] at h; subst h; exact k
  | (k', v') :: es, fs, _, ss, ⟨e, l, h1, h2, h3, h4⟩, k => by subst h1; exact ⟨e, l ++ ss, rfl, h2, h3, MapR.append h4 k⟩
theorem MapR.modify : ∀ {es : List (DV × DV)} {rs : List MapEntry}, MapR ρ es rs → ∀ (i : Nat) {k v : DV} {f : MapEntry → MapEntry}, (∀ e, VR ρ k (f e).key ∧ VR ρ v (f e).val) → MapR ρ (es.set i (k, v)) (rs.modify i f)
  | [], _, h, i, k, v, f, hf => by simp only [MapR] at h; subst h; simp [MapR]
  | (k', v') :: es, _, ⟨e, l, h1, h2, h3, h4⟩, i, k, v, f, hf => by
    subst h1
    cases i with
    | zero => exact ⟨f e, l, rfl, (hf e).1, (hf e).2, h4⟩
    | succ i => exact ⟨e, l.modify i f, rfl, h2, h3, MapR.modify h4 i hf⟩
theorem MapR.erase : ∀ {es : List (DV × DV)} {rs : List MapEntry}, MapR ρ es rs → ∀ (i : Nat), MapR ρ (es.eraseIdx i) (rs.eraseIdx i)
  | [], _, h, i => by simp only [MapR] at h; subst h; simp [MapR]
  | (k', v') :: es, _, ⟨e, l, h1, h2, h3, h4⟩, i => by
    subst h1
    cases i with
    | zero => exact h4
    | succ i => exact ⟨e, l.eraseIdx i, rfl, h2, h3, MapR.erase h4 i⟩
theorem keyEq_true {kt : KT} {x y : DV} (h : keyEq kt x y = some true) : x = y := by
  unfold keyEq at h
  split at h
  · split at h
    · rename_i hh; obtain ⟨rfl, rfl⟩ := hh; simp at h; rw [h]
    · cases h
  · split at h
    · rename_i hh; obtain ⟨rfl, rfl, rfl, rfl⟩ := hh; simp at h; rw [h.1, h.2]
    · cases h
  · cases h
theorem gfind_some {kt : KT} {key : DV} : ∀ {es : List (DV × DV)} {i j : Nat} {v : DV}, gfind kt key es i = some (some (j, v)) → i ≤ j ∧ es[j - i]? = some (key, v)
  | [], i, j, v, h => by simp [gfind] at h
  | (k, u) :: es, i, j, v, h => by
    simp only [gfind] at h
    split at h
    · rename_i he
      cases h
      refine ⟨Nat.le_refl _, ?_⟩
      rw [keyEq_true he]; simp
    · obtain ⟨h1, h2⟩ := gfind_some h
      refine ⟨by omega, ?_⟩
      rw [show j - i = (j - (i + 1)) + 1 by omega]
      simpa using h2
    · cases h
/-- A map, or a loop's record, is written. -/
theorem Rel.put_obj (h : Rel N w0 ρ σ w) {id : Nat} {L : Loc} {o o' : GObj} (hL : ρ id = some L) (hid : σ[id]? = some o) (hsp : o.special = true) (hsp' : o'.special = true) {x' : Obj} (hm : ObjR ρ L o' x') :
    (setObj L.blk x').run P w = .ok () { w with heap := w.heap.setIfInBounds L.blk x' } ∧ Rel N w0 ρ (σ.set id o') { w with heap := w.heap.setIfInBounds L.blk x' } ∧ Touch w L.blk { w with heap := w.heap.setIfInBounds L.blk x' } := by
  obtain ⟨hN, x, hblk, hx⟩ := h.obj id L o hL hid hsp
  have hlt : L.blk < w.heap.size := (Array.getElem?_eq_some_iff.1 hblk).1
  have hoth : ∀ k, k ≠ L.blk → ({ w with heap := w.heap.setIfInBounds L.blk x' } : World).heap[k]? = w.heap[k]? := fun k hk => by simp [Array.getElem?_setIfInBounds, Ne.symm hk]
  have hself : ({ w with heap := w.heap.setIfInBounds L.blk x' } : World).heap[L.blk]? = some x' := by simp [hlt]
  have hnc : ∀ c e f, x ≠ .cells c e f := by
    intro c e f he
    subst he
    cases o <;> simp only [ObjR] at hx
    · obtain ⟨_, hx, _⟩ := hx; cases hx
    · obtain ⟨_, hx, _⟩ := hx; cases hx
    · obtain ⟨_, hx, _⟩ := hx; cases hx
  refine ⟨?_, ?_, ⟨by simp, hoth⟩⟩
  · simp only [setObj, Sem.run, hblk]
  have hne : ∀ i L', i ≠ id → ρ i = some L' → own σ i → L'.blk ≠ L.blk := fun i L' hi hL' ho => h.disj i id L' L hi hL' hL ho (.inr ⟨_, hid, hsp⟩)
  have hfz : ∀ b o v, ρ.fz b o = some v → b ≠ L.blk := fun b o v hv e => h.fzo b o v id L hv hL (.inr ⟨_, hid, hsp⟩) e.symm
  refine ⟨?_, h.hN, fun i L' hi => by simpa using h.dom i L' hi, fun i L' hi => by simpa using h.lt i L' hi, ?_, ?_, ?_, fun b o v hv => by rw [cell_of_block (hoth _ (hfz b o v hv))]; exact h.fzw b o v hv, fun b o v i L' hv hi oi => ?_⟩
  · exact h.below.trans ⟨rfl, rfl, rfl, by simp, fun k hk => hoth k (by omega)⟩
  · intro i L' ro cs h1 h2
    by_cases hii : i = id
    · subst hii; rw [List.getElem?_set_self (h.dom _ _ hL)] at h2; cases h2; cases hsp'
    · rw [getElem?_set_ne _ hii] at h2
      obtain ⟨a, b, c⟩ := h.row i L' ro cs h1 h2
      refine ⟨fun j v hv => ?_, b, fun hro => ?_⟩
      · have hbn : L'.blk ≠ L.blk := by
          cases ro with
          | true => obtain ⟨rv, g1, _⟩ := b rfl j v hv; exact hfz _ _ _ g1
          | false => exact hne i L' hii h1 (.inl ⟨_, h2⟩)
        rw [cell_of_block (hoth _ hbn)]; exact a j v hv
      · subst hro
        rw [hoth _ (hne i L' hii h1 (.inl ⟨_, h2⟩))]; exact c rfl
  · intro i L' o2 h1 h2 hs
    by_cases hii : i = id
    · subst hii
      rw [hL] at h1; cases h1
      rw [List.getElem?_set_self (h.dom _ _ hL)] at h2; cases h2
      exact ⟨hN, x', hself, hm⟩
    · rw [getElem?_set_ne _ hii] at h2
      rw [hoth _ (hne i L' hii h1 (.inr ⟨_, h2, hs⟩))]
      exact h.obj i L' o2 h1 h2 hs
  · intro i j Li Lj hij hi hj oi oj
    have ho : ∀ k Lk, ρ k = some Lk → own (σ.set id o') k → own σ k := by
      intro k Lk hk ok
      by_cases hii : k = id
      · subst hii; exact .inr ⟨_, hid, hsp⟩
      · exact own_of_set hii ok
    exact h.disj i j Li Lj hij hi hj (ho _ _ hi oi) (ho _ _ hj oj)
  · refine h.fzo b o v i L' hv hi ?_
    by_cases hii : i = id
    · subst hii; exact .inr ⟨_, hid, hsp⟩
    · exact own_of_set hii oi
theorem Rel.put_map (h : Rel N w0 ρ σ w) {id : Nat} {L : Loc} {es es' : List (DV × DV)} {st st' : List Nat × Nat} (hL : ρ id = some L) (hid : σ[id]? = some (.mp es st)) {rs : Array MapEntry} (hm : MapR ρ es' rs.toList) (hb : rs.toList.map (·.born) = st'.1) :
    (setObj L.blk (.map rs st'.2)).run P w = .ok () { w with heap := w.heap.setIfInBounds L.blk (.map rs st'.2) } ∧ Rel N w0 ρ (σ.set id (.mp es' st')) { w with heap := w.heap.setIfInBounds L.blk (.map rs st'.2) } ∧ Touch w L.blk { w with heap := w.heap.setIfInBounds L.blk (.map rs st'.2) } :=
  h.put_obj hL hid rfl rfl ⟨rs, rfl, hm, hb⟩
end
end Go.Gh
namespace Go.Gh
open Go.RowKit
set_option linter.unusedVariables false
set_option linter.unusedSimpArgs false

/-- Loads. -/
inductive LK where
  | load (n : Nat) (agg : Bool)
  | lookup (kt : KT) (z : DV) (ok : Bool)
  | mlen | entry | aslice (n sz : Nat) (lo hi : Bool)
/-- The entry of a map with a stamp. -/
def gentry : List (DV × DV) → List Nat → Nat → Option DV
  | (k, v) :: es, s :: st, b => if s == b then some (.tuple [k, v]) else gentry es st b
  | _, _, _ => none
/-- p[lo:hi] of a pointer to an array of n elements. -/
def gaslice (n sz : Nat) (lo hi : Option DV) (x : DV) (σ : GS) : Option DV :=
  match x with
  | .ptr id off => match σ[id]? with
    | some (.row false cs) => if off + n * sz ≤ cs.length then (gbh hi false n n).bind fun h => (gbl lo h).bind fun l => some (.slice id (off + l * sz) (h - l) sz (some (n - l))) else none
    | _ => none
  | _ => none
/-- What a lookup yields. -/
def lres (z : DV) (ok : Bool) (r : Option (Nat × DV)) : DV :=
  match r with
  | some (_, v) => if ok then .tuple [v, .bool true] else v
  | none => if ok then .tuple [z, .bool false] else z
def valD : Value → Option DV
  | .agg cs => (ofVals cs.toList).map .agg
  | v => ofVal v
def zeroV (P : Program) (t : TypeId) : Option DV := ((P.info? t).bind (·.zero)).bind valD
def gload : LK → List DV → GS → Option DV
  | .load n agg, [.ptr id off], σ => match σ[id]? with
    | some (.row _ cs) => if agg then (if off + n ≤ cs.length then some (.agg ((cs.drop off).take n)) else none) else cs[off]?
    | _ => none
  | .load n agg, [.fptr cs], _ => if agg then (if n ≤ cs.length then some (.agg (cs.take n)) else none) else cs[0]?
  | .lookup kt z ok, [.nilmap, key], _ => if keyFits kt key then some (lres z ok none) else none
  | .lookup kt z ok, [.map id, key], σ => if keyFits kt key then
      (match σ[id]? with
      | some (.mp es _) => match gfind kt key es 0 with | some r => some (lres z ok r) | none => none
      | _ => none)
    else none
  | .mlen, [.nilmap], _ => some (.int .i64 0)
  | .mlen, [.map id], σ => match σ[id]? with
    | some (.mp es _) => some (.int .i64 es.length)
    | _ => none
  | .entry, [.ptr it 0], σ => match σ[it]? with
    | some (.it (some id) _ seen last) => match seen.getLast?, σ[id]? with
      | some b, some (.mp es st) => if st.2 = last then gentry es st.1 b else none
      | _, _ => none
    | _ => none
  | .aslice n sz lo hi, x :: rest, σ => match lo, hi, rest with
    | false, false, [] => gaslice n sz none none x σ
    | true, false, [l] => gaslice n sz (some l) none x σ
    | false, true, [h] => gaslice n sz none (some h) x σ
    | true, true, [l, h] => gaslice n sz (some l) (some h) x σ
    | _, _, _ => none
  | _, _, _ => none
def lkOf (P : Program) (o : Oper) : Option LK :=
  match o.op with
  | .load t _ => match P.underlying t, sizeD P t with
    | some d, some n => some (.load n (isAggD (some d)))
    | _, _ => none
  | .lookup t _ _ ok => match P.underlying t with
    | some (.map k e) => match ktOf P k, zeroV P e with
      | some kt, some z => some (.lookup kt z ok)
      | _, _ => none
    | _ => none
  | .entry _ => some .entry
  | .slice t _ lo hi none => match P.underlying t with
    | some (.array n e) => (sizeD P e).map fun s => .aslice n s lo.isSome hi.isSome
    | _ => none
  | .call c => match c.callee with
    | .builtin .len => match c.argTypes[0]? with
      | some t => match P.underlying t with
        | some (.map ..) => some .mlen
        | _ => none
      | none => none
    | _ => none
  | _ => none

def gzeros (z : List DV) (m : Nat) : List DV :=
  match z with
  | [z0] => List.replicate m z0
  | z => (List.range m).map fun i => z.getD (i % z.length) .any

/-- Operations that lay a new block and look at no other. -/
inductive AK where
  | alloc (z : List DV) | abig (n : Nat) (d : DV) | box | bslice (sz : Nat) (z : List DV) (len : Nat) (pl : List (Nat × Nat)) | mslice (sz bytes : Nat) (z : List DV) | mmap
def galloc : AK → List DV → Option (GObj × (Nat → DV))
  | .alloc z, [] => some (.row false z, fun id => .ptr id 0)
  | .abig n d, [] => some (.row false (List.replicate n d), fun id => .ptr id 0)
  | .box, [v] => v.cells.map fun cs => (.row false cs, fun id => .ptr id 0)
  | .bslice sz z len pl, ps => (gfill pl (gzeros z (len * sz)) ps).map fun cs => (.row false cs, fun id => .slice id 0 len sz (some len))
  | .mslice sz bytes z, [.int _ l, .int _ c] => if 0 ≤ l ∧ l ≤ c ∧ c * bytes ≤ 140737488355328 ∧ c ≤ 140737488355328 then some (.row false (gzeros z (c.toNat * sz)), fun id => .slice id 0 l.toNat sz (some c.toNat)) else none
  | .mmap, _ => some (.mp [] ([], 0), fun id => .map id)
  | _, _ => none
def akOf (P : Program) (o : Oper) : Option AK :=
  match o.op with
  | .alloc t => match bigF P t with
    | some (n, d) => some (.abig n d)
    | none => (zeroD P t).map .alloc
  | .box _ _ => some .box
  | .buildSlice t len parts => match P.underlying t with
    | some (.slice e) => match sizeD P e, zeroD P e with
      | some s, some z => match placesOf (fun i => some (i * s, s)) (parts.toList.map (·.1)) with
        | some pl => if z.length = s ∧ s ≠ 0 ∧ len * s ≤ 2 ^ 24 then some (.bslice s z len pl) else none
        | none => none
      | _, _ => none
    | _ => none
  | .makeSlice t _ _ => match P.underlying t with
    | some (.slice e) => match sizeD P e, zeroD P e, (P.info? e).map (·.bytes) with
      | some s, some z, some b => if z.length = s ∧ s ≠ 0 then some (.mslice s b z) else none
      | _, _, _ => none
    | _ => none
  | .makeMap _ none => some .mmap
  | _ => none

def DV.flat : DV → Bool
  | .any | .agg _ | .tuple _ => false
  | _ => true
def growOk (need bytes : Nat) : Bool := need * bytes ≤ 140737488355328 && bytes != 0
def gread (sz : Nat) (x : DV) (σ : GS) : Option (List DV) :=
  match x with
  | .nils => some []
  | .slice id off len sz' _ => if len = 0 then some [] else if sz' = sz then
      (match σ[id]? with
      | some (.row _ cs) => if off + len * sz ≤ cs.length then some ((cs.drop off).take (len * sz)) else none
      | _ => none)
    else none
  | .fsl sz' es => if sz' = sz then some es.flatten else none
  | _ => none
def glen : DV → Nat
  | .slice _ _ len _ _ => len
  | .fsl _ es => es.length
  | _ => 0
def gappend (sz bytes : Nat) (s x : DV) (σ : GS) : Option (DV × GS) :=
  match gread sz x σ with
  | none => none
  | some new =>
    match s with
    | .nils => if glen x = 0 then some (s, σ) else if growOk (glen x) bytes then some (.slice σ.length 0 (glen x) sz none, σ ++ [.row false new]) else none
    | .slice id off len sz' cap =>
      if glen x = 0 then some (s, σ) else
      if sz' = sz then
        match cap with
        | some c =>
          if len + glen x ≤ c then
            match σ[id]? with
            | some (.row false cs) => if off + (len + glen x) * sz ≤ cs.length ∧ new.all DV.flat then some (.slice id off (len + glen x) sz (some c), σ.set id (.row false (over cs (off + len * sz) new))) else none
            | _ => none
          else match gread sz s σ with
            | some old => if growOk (len + glen x) bytes then some (.slice σ.length 0 (len + glen x) sz none, σ ++ [.row false (old ++ new)]) else none
            | none => none
        | none =>
          match σ[id]?, gread sz s σ with
          | some (.row false _), some old => if growOk (len + glen x) bytes ∧ new.all DV.flat then some (.slice σ.length 0 (len + glen x) sz none, σ.set id .dead ++ [.row false (old ++ new)]) else none
          | _, _ => none
      else none
    | .fsl _ _ => if glen x = 0 then some (s, σ) else none
    | _ => none
/-- Operations that change what lies in memory. -/
inductive IK where
  | store (n : Nat) | append (sz bytes : Nat) | copy (sz : Nat) | mset (kt : KT) | mdel (kt : KT)
  | clear (sz : Nat) (z : List DV) | appendz (sz bytes : Nat) (z : List DV) | mrange
def gimp : IK → List DV → GS → Option (DV × GS)
  | .store n, [.ptr id off, v], σ => match σ[id]?, v.cells with
    | some (.row false cs), some new => if new.length = n ∧ off + n ≤ cs.length ∧ new.all DV.flat then some (.tuple [], σ.set id (.row false (over cs off new))) else none
    | _, _ => none
  | .append sz bytes, [s, x], σ => gappend sz bytes s x σ
  | .copy sz, [d, x], σ =>
    match gread sz x σ, d with
    | some src, .slice id off len sz' _ =>
      if min (glen x) len = 0 then some (.int .i64 0, σ) else
      if sz' = sz then
        match σ[id]? with
        | some (.row false cs) => if off + (min (glen x) len) * sz ≤ cs.length ∧ (src.take (min (glen x) len * sz)).all DV.flat then some (.int .i64 (min (glen x) len : Nat), σ.set id (.row false (over cs off (src.take (min (glen x) len * sz))))) else none
        | _ => none
      else none
    | some src, .nils => some (.int .i64 0, σ)
    | _, _ => none
  | .mset kt, [.map id, key, v], σ => if keyFits kt key then
      (match σ[id]? with
      | some (.mp es st) => match gfind kt key es 0 with
        | some (some (i, _)) => some (.tuple [], σ.set id (.mp (es.set i (key, v)) st))
        | some none => some (.tuple [], σ.set id (.mp (es ++ [(key, v)]) (st.1 ++ [st.2], st.2 + 1)))
        | none => none
      | _ => none)
    else none
  | .mdel kt, [.map id, key], σ => if keyFits kt key then
      (match σ[id]? with
      | some (.mp es st) => match gfind kt key es 0 with
        | some (some (i, _)) => some (.tuple [], σ.set id (.mp (es.eraseIdx i) (st.1.eraseIdx i, st.2)))
        | some none => some (.tuple [], σ.set id (.mp es st))
        | none => none
      | _ => none)
    else none
  | .clear sz z, [x], σ => match x with
    | .nils => some (.tuple [], σ)
    | .slice id off len sz' _ => if len = 0 then some (.tuple [], σ) else if sz' = sz then
        (match σ[id]? with
        | some (.row false cs) => if off + len * sz ≤ cs.length ∧ (gzeros z (len * sz)).all DV.flat then some (.tuple [], σ.set id (.row false (over cs off (gzeros z (len * sz))))) else none
        | _ => none)
      else none
    | _ => none
  | .appendz sz bytes z, [.nils, .int _ n], σ => if n = 0 then some (.nils, σ) else if 0 < n ∧ growOk n.toNat bytes then some (.slice σ.length 0 n.toNat sz none, σ ++ [.row false (gzeros z (n.toNat * sz))]) else none
  | .appendz sz bytes z, [.slice id off len sz' (some c), .int _ n], σ => if sz' = sz ∧ 0 < n ∧ c < len + n.toNat ∧ growOk (len + n.toNat) bytes then
      (match gread sz (.slice id off len sz' (some c)) σ with
      | some old => some (.slice σ.length 0 (len + n.toNat) sz none, σ ++ [.row false (old ++ gzeros z (n.toNat * sz))])
      | none => none)
    else none
  | .mrange, [.nilmap], σ => some (.ptr σ.length 0, σ ++ [.it none 0 [] 0])
  | .mrange, [.map id], σ => match σ[id]? with
    | some (.mp _ st) => some (.ptr σ.length 0, σ ++ [.it (some id) st.2 [] st.2])
    | _ => none
  | _, _, _ => none
def ikOf (P : Program) (o : Oper) : Option IK :=
  match o.op with
  | .store t _ _ => (sizeD P t).map .store
  | .mapUpdate t _ _ _ => match P.underlying t with
    | some (.map k _) => (ktOf P k).map .mset
    | _ => none
  | .insert t _ _ _ => match P.underlying t with
    | some (.map k _) => (ktOf P k).map .mset
    | _ => none
  | .range t _ => match P.underlying t with
    | some (.map ..) => some .mrange
    | _ => none
  | .call c => match c.callee with
    | .builtin .append => match c.argTypes[0]?, c.argTypes[1]? with
      | some t, some t2 => match P.underlying t, P.underlying t2 with
        | some (.slice e), some (.slice _) => match sizeD P e, (P.info? e).map (·.bytes), zeroD P e with
          | some s, some b, some z => if s ≠ 0 ∧ z.length = s then some (.append s b) else none
          | _, _, _ => none
        | some (.slice e), some (.int _) => match sizeD P e, (P.info? e).map (·.bytes), zeroD P e with
          | some s, some b, some z => if s ≠ 0 ∧ z.length = s then some (.appendz s b z) else none
          | _, _, _ => none
        | _, _ => none
      | _, _ => none
    | .builtin .clear => match c.argTypes[0]? with
      | some t => match P.underlying t with
        | some (.slice e) => match sizeD P e, zeroD P e with
          | some s, some z => if s ≠ 0 ∧ z.length = s then some (.clear s z) else none
          | _, _ => none
        | _ => none
      | none => none
    | .builtin .copy => match c.argTypes[0]? with
      | some t => match P.underlying t with
        | some (.slice e) => (sizeD P e).map .copy
        | _ => none
      | _ => none
    | .builtin .delete => match c.argTypes[0]? with
      | some t => match P.underlying t with
        | some (.map k _) => (ktOf P k).map .mdel
        | _ => none
      | _ => none
    | _ => none
  | _ => none

section
variable {P : Program} {N : Nat} {w0 : World} {ρ : Ren} {σ : GS} {w : World}

theorem entry_find {b : Nat} : ∀ {es : List (DV × DV)} {st : List Nat} {rs : List MapEntry}, MapR ρ es rs → rs.map (·.born) = st → ∀ {v : DV}, gentry es st b = some v → ∃ e, rs.find? (fun e => e.born == b) = some e ∧ ∃ p : DV × DV, v = .tuple [p.1, p.2] ∧ VR ρ p.1 e.key ∧ VR ρ p.2 e.val
  | [], st, rs, hm, hb, v, h => by simp [gentry] at h
  | (k, x) :: es, st, rs, hm, hb, v, h => by
    obtain ⟨e, l, rfl, h1, h2, h3⟩ := hm
    subst hb
    simp only [List.map_cons, gentry] at h
    by_cases hh : (e.born == b) = true
    · rw [if_pos hh] at h; cases h
      exact ⟨e, by simp [List.find?, hh], (k, x), rfl, h1, h2⟩
    · rw [if_neg hh] at h
      obtain ⟨e', g1, g2⟩ := entry_find h3 rfl h
      exact ⟨e', by simp only [Bool.not_eq_true] at hh; simp [List.find?, hh, g1], g2⟩
theorem abounds_run {lo hi : Option DV} {rlo rhi : Option Value} (hlo : OptR ρ lo rlo) (hhi : OptR ρ hi rhi) {n h l : Nat} (hh : gbh hi false n n = some h) (hl : gbl lo h = some l) (w : World) :
    l ≤ h ∧ h ≤ n ∧ (Instr.sliceBounds false n n rlo rhi none).run P w = .ok (l, h, n) w := by
  have e1 : h ≤ n ∧ (match rhi with | some v => Instr.sliceBound v n .sliceAlen | none => (pure n : Sem Nat)).run P w = .ok h w := by
    cases hhi with
    | none => simp [gbh] at hh; subst hh; exact ⟨Nat.le_refl _, rfl⟩
    | some hv => simp only [gbh] at hh; obtain ⟨g1, g2⟩ := gbound_run (P := P) hv hh (Nat.le_refl _) .sliceAlen w; exact ⟨g2, g1⟩
  obtain ⟨l1, l2⟩ := bound_l (P := P) hlo false hl w
  refine ⟨l1, e1.1, ?_⟩
  unfold Instr.sliceBounds
  simp only [Sem.run_bind, Sem.run_pure, Result.andThen_ok]
  cases rhi with
  | none =>
    have := e1.2
    simp only [Sem.run_pure] at this
    cases this
    cases rlo with
    | none => simp only [rbl, Sem.run_pure] at l2; cases l2; rfl
    | some v => simp only [rbl] at l2; simp only [Sem.run_pure, Result.andThen_ok, Option.isSome, Sem.run_bind]; simp only [Bool.false_eq_true, if_false] at l2 ⊢; rw [l2]; rfl
  | some u =>
    have := e1.2
    simp only at this ⊢
    cases rlo with
    | none => simp only [rbl, Sem.run_pure] at l2; cases l2; simp [this]
    | some v => simp only [rbl, Bool.false_eq_true, if_false] at l2; simp [this, l2]
theorem loadCells_run {L : Loc} {cs : List DV} (h : CellsR ρ w L cs) {off n : Nat} (hn : off + n ≤ cs.length) :
    ∃ rs : List Value, (loadCells ⟨L.blk, L.off + off, none⟩ n).run P w = .ok rs.toArray w ∧ VRs ρ ((cs.drop off).take n) rs := by
  have hex : ∀ j, j < n → ∃ rv, w.cell? ⟨L.blk, L.off + off + j, none⟩ = some rv ∧ ∀ v, cs[off + j]? = some v → VR ρ v rv := by
    intro j hj
    have hlt : off + j < cs.length := by omega
    obtain ⟨rv, h1, h2⟩ := h (off + j) cs[off + j] (by simp [hlt])
    refine ⟨rv, by rw [← h1]; simp [Nat.add_assoc], fun v hv => ?_⟩
    rw [List.getElem?_eq_getElem hlt] at hv; cases hv; exact h2
  let f : Nat → Value := fun j => (w.cell? ⟨L.blk, L.off + off + j, none⟩).getD undef
  have hrun := run_loadCells (P := P) w ⟨L.blk, L.off + off, none⟩ n f (fun j hj => by
    obtain ⟨rv, h1, _⟩ := hex j hj
    rw [show (⟨L.blk, L.off + off, none⟩ : Addr).add j = ⟨L.blk, L.off + off + j, none⟩ by unfold Addr.add; split <;> simp_all]
    simp [f, h1])
  refine ⟨(List.range n).map f, by rw [hrun], VRs.mk (by simp; omega) fun i x hx => ?_⟩
  rw [List.getElem?_take] at hx
  split at hx
  · rename_i hi
    rw [List.getElem?_drop] at hx
    obtain ⟨rv, h1, h2⟩ := hex i hi
    refine ⟨rv, ?_, h2 x hx⟩
    simp [hi, f, h1]
  · cases hx

/-- Cells that nobody writes are loaded. -/
theorem loadFz_run (h : Rel N w0 ρ σ w) {b o : Nat} {vs : List Value} (hv : ∀ (k : Nat) (x : Value), vs[k]? = some x → ρ.fz b (o + k) = some x) {n : Nat} (hn : n ≤ vs.length) :
    (loadCells ⟨b, o, none⟩ n).run P w = .ok (vs.take n).toArray w := by
  have hrun := run_loadCells (P := P) w ⟨b, o, none⟩ n (fun j => vs.getD j undef) (fun j hj => by
    have hx : vs[j]? = some (vs[j]'(by omega)) := List.getElem?_eq_getElem (by omega)
    have := h.fzw _ _ _ (hv j _ hx)
    rw [show (⟨b, o, none⟩ : Addr).add j = ⟨b, o + j, none⟩ by unfold Addr.add; split <;> simp_all]
    rw [this]; simp [List.getD, hx])
  rw [hrun]
  congr 2
  apply List.ext_getElem?
  intro i
  rw [List.getElem?_map, List.getElem?_take]
  by_cases hi : i < n
  · rw [List.getElem?_range hi, if_pos hi]
    have hx : vs[i]? = some (vs[i]'(by omega)) := List.getElem?_eq_getElem (by omega)
    simp [List.getD, hx]
  · rw [List.getElem?_eq_none (by simpa using hi), if_neg hi]; rfl
theorem zeroV_run {t : TypeId} {z : DV} (h : zeroV P t = some z) (w : World) : ∃ v, (zeroValue t).run P w = .ok v w ∧ VR ρ z v := by
  unfold zeroV at h
  cases hi : P.info? t with
  | none => simp [hi] at h
  | some i =>
    cases hz : i.zero with
    | none => simp [hi, hz] at h
    | some v =>
      simp [hi, hz] at h
      refine ⟨v, by simp [zeroValue, typeInfo, hi, hz], ?_⟩
      unfold valD at h
      split at h
      · rename_i cs
        obtain ⟨ds, hds, rfl⟩ := Option.map_eq_some_iff.1 h
        simp only [VR]
        exact ⟨cs.toList, ofVals_sound hds ρ, by simp⟩
      · exact ofVal_sound h ρ

theorem gload_sound {o : Oper} {k : LK} (hk : lkOf P o = some k) {g : Operand → DV} {r : Operand → Value} (hr : ∀ x ∈ o.op.operands, VR ρ (g x) (r x)) {v : DV}
    (hv : gload k (o.op.operands.toList.map g) σ = some v) (h : Rel N w0 ρ σ w) : ∃ rv, (execOp r o).run P w = .ok (.value rv) w ∧ VR ρ v rv := by
  obtain ⟨dst, op, type, pos, after, guard⟩ := o
  cases op
  all_goals simp only [lkOf] at hk
  all_goals try (cases hk; done)
  case load t x =>
    split at hk
    · rename_i d n hd hn
      cases hk
      have h1 := hr x (by simp [Op.operands])
      simp only [Op.operands, List.map_cons, List.map_nil] at hv
      cases hx : g x <;> simp only [hx, gload] at hv <;> try (cases hv; done)
      case fptr cs =>
        rw [hx] at h1
        obtain ⟨b, o, vs, hp, g1, g2⟩ := h1.fptr_inv
        have hl := g1.length
        split at hv
        · rename_i hagg
          split at hv
          · rename_i hle
            cases hv
            refine ⟨.agg (vs.take n).toArray, ?_, by simp only [VR]; exact ⟨_, g1.take n, rfl⟩⟩
            simp [execOp, hp, Instr.loadAt, Instr.sureAddr, loadVar, isAgg_run hd, hagg, sizeD_run hn, loadFz_run (P := P) h g2 (show n ≤ vs.length by omega)]
          · cases hv
        · rename_i hagg
          obtain ⟨rv, h2, h3⟩ := g1.get hv
          have := h.fzw _ _ _ (g2 0 rv h2)
          refine ⟨rv, ?_, h3⟩
          simp only [Nat.add_zero] at this
          simp [execOp, hp, Instr.loadAt, Instr.sureAddr, loadVar, isAgg_run hd, hagg, this]
      rename_i id off
      rw [hx] at h1
      obtain ⟨L, hL, hp⟩ := h1.ptr_inv
      split at hv
      · rename_i ro cs hrow
        obtain ⟨hc, _⟩ := h.row id L ro cs hL hrow
        split at hv
        · rename_i hagg
          split at hv
          · rename_i hle
            cases hv
            obtain ⟨rs, h2, h3⟩ := loadCells_run (P := P) hc hle
            refine ⟨.agg rs.toArray, ?_, by simp only [VR]; exact ⟨rs, h3, rfl⟩⟩
            simp [execOp, hp, Instr.loadAt, Instr.sureAddr, loadVar, isAgg_run hd, hagg, sizeD_run hn, h2]
          · cases hv
        · rename_i hagg
          obtain ⟨rv, h2, h3⟩ := hc off v hv
          refine ⟨rv, ?_, h3⟩
          simp [execOp, hp, Instr.loadAt, Instr.sureAddr, loadVar, isAgg_run hd, hagg, h2]
      · cases hv
    · cases hk
  case entry x =>
    cases hk
    have h1 := hr x (by simp [Op.operands])
    simp only [Op.operands, List.map_cons, List.map_nil] at hv
    cases hx : g x <;> simp only [hx, gload] at hv <;> try (cases hv; done)
    rename_i it off
    cases off with
    | succ n => simp [gload] at hv
    | zero =>
      simp only [gload] at hv
      rw [hx] at h1
      obtain ⟨L, hL, hp⟩ := h1.ptr_inv
      split at hv
      · rename_i id since seen last hit
        split at hv
        · rename_i b es st hb hmp
          split at hv
          · rename_i hlast
            obtain ⟨_, x', hblk, mm, rfl, hoff, M, hM, rfl⟩ := h.obj it L _ hL hit rfl
            obtain ⟨_, rs, hblk2, hmr, hbo⟩ := h.mp id M es st hM hmp
            have hgi : (getObj L.blk).run P w = .ok (.mapIter (some M.blk) since seen.toArray last) w := by simp [getObj, Sem.run, hblk]
            have hgm : (getObj M.blk).run P w = .ok (.map rs st.2) w := by simp [getObj, Sem.run, hblk2]
            obtain ⟨e, g1, p, rfl, g2⟩ := entry_find hmr hbo hv
            refine ⟨.tuple #[e.key, e.val], ?_, by simp only [VR]; exact ⟨[e.key, e.val], VRs.cons g2.1 (VRs.cons g2.2 VRs.nil), rfl⟩⟩
            have hbk : seen.toArray.back? = some b := by simpa using hb
            have hfd : rs.find? (fun e => e.born == b) = some e := by rw [← Array.find?_toList]; exact g1
            simp only [execOp, hp, Instr.entry, hoff, Sem.run_bind, Nat.add_zero, hgi, Result.andThen_ok, hbk, hgm, Sem.run_pure]
            rw [if_neg (by simp [hlast])]
            simp [hfd]
          · cases hv
        · cases hv
      · cases hv
  case slice t x lo hi mx =>
    cases mx with
    | some _ => simp at hk
    | none =>
    simp only at hk
    split at hk
    · rename_i n e ha
      · obtain ⟨s, hs, rfl⟩ := Option.map_eq_some_iff.1 hk
        have h1 := hr x (by simp [Op.operands])
        have key : ∀ {glo ghi : Option DV}, OptR ρ glo (lo.map r) → OptR ρ ghi (hi.map r) → gaslice n s glo ghi (g x) σ = some v → ∃ rv, (execOp r ⟨dst, .slice t x lo hi none, type, pos, after, guard⟩).run P w = .ok (.value rv) w ∧ VR ρ v rv := by
          intro glo ghi hlo hhi hv
          cases hx : g x <;> simp only [hx, gaslice] at hv <;> try (cases hv; done)
          rename_i id off
          rw [hx] at h1
          obtain ⟨L, hL, hp⟩ := h1.ptr_inv
          split at hv
          · rename_i cs hrow
            obtain ⟨_, _, hown⟩ := h.row id L false cs hL hrow
            obtain ⟨_, hext, _⟩ := hown rfl
            split at hv
            · rename_i hfit
              obtain ⟨hh, e1, hv⟩ := Option.bind_eq_some_iff.1 hv
              obtain ⟨l, e2, hv⟩ := Option.bind_eq_some_iff.1 hv
              cases hv
              obtain ⟨b1, b2, b3⟩ := abounds_run (P := P) hlo hhi e1 e2 w
              have hmul : (n - l) * s + l * s = n * s := by rw [← Nat.add_mul]; congr 1; omega
              refine ⟨.slice (some (if n = l then ⟨L.blk, L.off + off, none⟩ else (⟨L.blk, L.off + off, none⟩ : Addr).add (l * s))) (hh - l) (n - l), ?_, ?_⟩
              · simp [execOp, Instr.sliceAt, hp, under_run ha, Instr.sureAddr, b3, sizeD_run hs]
              · simp only [VR]
                refine ⟨L, _, n - l, hL, rfl, by omega, fun hc => ?_, fun c' hc' => by cases hc'; rfl, by omega⟩
                rw [if_neg (by omega)]
                simp [Addr.add, Nat.add_assoc]
            · cases hv
          · cases hv
        cases lo with
        | none =>
          cases hi with
          | none => simp only [Op.operands] at hv; simp [gload] at hv; exact key .none .none hv
          | some y => simp only [Op.operands] at hv; simp [gload] at hv; exact key .none (.some (hr y (by simp [Op.operands]))) hv
        | some z =>
          cases hi with
          | none => simp only [Op.operands] at hv; simp [gload] at hv; exact key (.some (hr z (by simp [Op.operands]))) .none hv
          | some y => simp only [Op.operands] at hv; simp [gload] at hv; exact key (.some (hr z (by simp [Op.operands]))) (.some (hr y (by simp [Op.operands]))) hv
    · cases hk
  case lookup ty x ix ok =>
    split at hk
    · rename_i kt0 et ht
      split at hk
      · rename_i kt z hkt hz
        cases hk
        have h1 := hr x (by simp [Op.operands])
        have h2 := hr ix (by simp [Op.operands])
        simp only [Op.operands, List.map_cons, List.map_nil] at hv
        obtain ⟨zv, hz1, hz2⟩ := zeroV_run (ρ := ρ) hz w
        cases hx : g x <;> simp only [hx, gload] at hv <;> try (cases hv; done)
        · rw [hx] at h1
          split at hv
          · rename_i hf
            cases hv
            refine ⟨if ok then .tuple #[zv, .bool false] else zv, ?_, ?_⟩
            · have hck := checkKey_run (P := P) hkt hf h2 true w
              have hfk : (Instr.findKey kt0 (r ix) []).run P w = .ok none w := by
                obtain ⟨r', q1, q2⟩ := findKey_run (P := P) (ρ := ρ) hkt h2 (es := []) (rs := []) rfl (r := none) (by rfl) w
                cases r' with
                | none => exact q1
                | some _ => exact q2.elim
              simp only [execOp, Instr.lookup, h1.nilmap_inv, Sem.run_bind, under_run ht, Result.andThen_ok, Sem.run_pure]
              simp [hck, hfk, hz1]
            · cases ok
              · exact hz2
              · simp only [lres, VR]; exact ⟨[zv, .bool false], VRs.cons hz2 (VRs.cons (by simp [VR]) VRs.nil), rfl⟩
          · cases hv
        · rename_i id
          rw [hx] at h1
          split at hv
          · rename_i hf
            split at hv
            · rename_i es st hes
              split at hv
              · rename_i rr hrr
                cases hv
                simp only [VR] at h1
                obtain ⟨L, hL, hp⟩ := h1
                obtain ⟨_, rs, hblk, hm, _⟩ := h.mp id L es st hL hes
                obtain ⟨r', q1, q2⟩ := findKey_run (P := P) hkt h2 hm hrr w
                have hck := checkKey_run (P := P) hkt hf h2 rs.isEmpty w
                have hget : (getObj L.blk).run P w = .ok (.map rs st.2) w := by simp [getObj, Sem.run, hblk]
                cases rr with
                | none =>
                  cases r' with
                  | some _ => exact q2.elim
                  | none =>
                    refine ⟨if ok then .tuple #[zv, .bool false] else zv, ?_, ?_⟩
                    · simp only [execOp, Instr.lookup, hp, Sem.run_bind, under_run ht, Result.andThen_ok, Sem.run_pure, hget]
                      simp [hck, q1, hz1]
                    · cases ok
                      · exact hz2
                      · simp only [lres, VR]; exact ⟨[zv, .bool false], VRs.cons hz2 (VRs.cons (by simp [VR]) VRs.nil), rfl⟩
                | some pr =>
                  obtain ⟨i, dv⟩ := pr
                  cases r' with
                  | none => exact q2.elim
                  | some pr' =>
                    obtain ⟨j, vv⟩ := pr'
                    obtain ⟨_, hvv⟩ := q2
                    refine ⟨if ok then .tuple #[vv, .bool true] else vv, ?_, ?_⟩
                    · simp only [execOp, Instr.lookup, hp, Sem.run_bind, under_run ht, Result.andThen_ok, Sem.run_pure, hget]
                      simp [hck, q1]
                    · cases ok
                      · exact hvv
                      · simp only [lres, VR]; exact ⟨[vv, .bool true], VRs.cons hvv (VRs.cons (by simp [VR]) VRs.nil), rfl⟩
              · cases hv
            · cases hv
          · cases hv
      · cases hk
    · cases hk
  case call c =>
    obtain ⟨callee, args, ats⟩ := c
    cases callee with
    | value f => simp at hk
    | invoke rcv m => simp at hk
    | builtin b =>
      have hops : (Op.call ⟨.builtin b, args, ats⟩).operands = args := by simp [Op.operands, Call.operands]
      rw [hops] at hv hr
      have hvs : VRs ρ (args.toList.map g) (args.toList.map r) := by
        refine VRs.mk (by simp) fun i x hx => ?_
        simp only [List.getElem?_map, Option.map_eq_some_iff] at hx ⊢
        obtain ⟨y, hy, rfl⟩ := hx
        exact ⟨r y, ⟨y, hy, rfl⟩, hr y (by simpa using List.mem_of_getElem? hy)⟩
      have hex : ∀ rv, (builtin b ats type (args.map fun | .const _ => true | _ => false) (args.map r)).run P w = .ok (.value rv) w → (execOp r ⟨dst, .call ⟨.builtin b, args, ats⟩, type, pos, after, guard⟩).run P w = .ok (.value rv) w := fun rv h => h
      have harr : args.map r = (args.toList.map r).toArray := by rw [← Array.toList_map]
      generalize hG : args.toList.map g = G at hv hvs
      generalize hR : args.toList.map r = R at hvs harr
      cases b <;> simp only at hk <;> try (cases hk; done)
      split at hk
      · rename_i t ht0
        split at hk
        · rename_i kk ee ht
          cases hk
          rcases G with _ | ⟨a, _ | ⟨b, l⟩⟩
          · simp [gload] at hv
          · obtain ⟨y, rfl, hy⟩ := hvs.one_inv
            cases a <;> simp only [gload] at hv <;> try (cases hv; done)
            · cases hv
              have := hy.nilmap_inv; subst this
              refine ⟨_, hex (.int .i64 0) ?_, by simp [VR]⟩
              simp [builtin, harr, Builtin.len_, ht0, under_run ht, goInt]
            · rename_i id
              split at hv
              · rename_i es st hes
                cases hv
                simp only [VR] at hy
                obtain ⟨L, hL, hp⟩ := hy
                subst hp
                obtain ⟨_, rs, hblk, hm, _⟩ := h.mp id L es st hL hes
                have hget : (getObj L.blk).run P w = .ok (.map rs st.2) w := by simp [getObj, Sem.run, hblk]
                have hlen : rs.size = es.length := by simpa using hm.length
                refine ⟨_, hex (.int .i64 rs.size) ?_, by simp [VR, hlen]⟩
                simp [builtin, harr, Builtin.len_, ht0, under_run ht, goInt, hget]
              · cases hv
          · simp [gload] at hv
        · cases hk
      · cases hk
end
end Go.Gh
namespace Go.Gh
open Go.RowKit
set_option linter.unusedVariables false
set_option linter.unusedSimpArgs false

section
variable {P : Program} {N : Nat} {w0 : World} {ρ : Ren} {σ : GS} {w : World}

theorem wrap_i64_in {n : Int} (h : -9223372036854775808 ≤ n) (k : n ≤ 9223372036854775807) : IntKind.i64.wrap n = n := by
  rw [IntKind.wrap_i64]; omega
theorem gzeros_sound {z : List DV} {zs : Array Value} (h : VRs ρ z zs.toList) {m : Nat} (hm : z.length ≠ 0) :
    VRs ρ (gzeros z m) ((Array.range m).map (fun i => zs[i % zs.size]!)).toList := by
  have hl := h.length
  have hsz : zs.size = z.length := by simpa using hl
  have hgen : VRs ρ ((List.range m).map fun i => z.getD (i % z.length) .any) ((Array.range m).map (fun i => zs[i % zs.size]!)).toList := by
    refine VRs.mk (by simp) fun i x hx => ?_
    simp only [List.getElem?_map, Option.map_eq_some_iff, List.getElem?_range'] at hx
    obtain ⟨j, hj, rfl⟩ := hx
    have hlt : i < m := by
      rcases Nat.lt_or_ge i m with h' | h'
      · exact h'
      · rw [List.getElem?_eq_none (by simpa using h')] at hj; cases hj
    rw [List.getElem?_range hlt] at hj; cases hj
    have hmod : i % z.length < z.length := Nat.mod_lt _ (by omega)
    obtain ⟨y, hy, hr⟩ := h.get (i := i % z.length) (x := z[i % z.length]) (by simp [hmod])
    refine ⟨y, ?_, by simpa [List.getD, List.getElem?_eq_getElem hmod] using hr⟩
    simp only [Array.getElem?_toList] at hy ⊢
    simp [hlt, hsz]
    rw [getElem!_def, hy]
  unfold gzeros
  split
  · rename_i z0
    have e : (List.range m).map (fun i => [z0].getD (i % [z0].length) DV.any) = List.replicate m z0 := by
      apply List.ext_getElem
      · simp
      · intro i h1 h2; simp [Nat.mod_one]
    rw [e] at hgen; exact hgen
  · exact hgen

theorem hc_of {cs : List DV} {cells : Array Value} (h : VRs ρ cs cells.toList) : ∀ (j : Nat) (v : DV), cs[j]? = some v → ∃ rv, cells[j]? = some rv ∧ VR ρ v rv := by
  intro j v hv
  obtain ⟨y, hy, hr⟩ := h.get hv
  exact ⟨y, by simpa using hy, hr⟩
theorem len_of {cs : List DV} {cells : Array Value} (h : VRs ρ cs cells.toList) : cs.length = cells.size := by simpa using h.length.symm

theorem over_length {cs new : List DV} {off : Nat} (h : off + new.length ≤ cs.length) : (over cs off new).length = cs.length := by
  unfold over; simp; omega
theorem gfill_length : ∀ {pl : List (Nat × Nat)} {cells ps out : List DV}, gfill pl cells ps = some out → out.length = cells.length
  | [], cells, [], out, h => by simp [gfill] at h; rw [h]
  | [], cells, _ :: _, out, h => by simp [gfill] at h
  | (off, size) :: pl, cells, [], out, h => by simp [gfill] at h
  | (off, size) :: pl, cells, p :: ps, out, h => by
    simp only [gfill] at h
    split at h
    · rename_i cs hcs
      split at h
      · rename_i hc
        rw [gfill_length h, over_length (by omega)]
      · cases h
    · cases h
theorem gzeros_length (z : List DV) (m : Nat) : (gzeros z m).length = m := by unfold gzeros; split <;> simp

/-- A new block: the ghost object may have been laid down before; it lies nowhere yet. -/
theorem galloc_sound {o : Oper} {k : AK} (hk : akOf P o = some k) {g : Operand → DV} {r : Operand → Value} (hr : ∀ x ∈ o.op.operands, VR ρ (g x) (r x)) {obj : GObj} {mk : Nat → DV}
    (hv : galloc k (o.op.operands.toList.map g) = some (obj, mk)) (h : Rel N w0 ρ σ w) {id : Nat} (hid : σ[id]? = some obj) (hn : ρ id = none) :
    ∃ rv o' off ext, (execOp r o).run P w = .ok (.value rv) (w.alloc o') ∧ Rel N w0 (ρ.put id ⟨w.heap.size, off, ext⟩) σ (w.alloc o') ∧ VR (ρ.put id ⟨w.heap.size, off, ext⟩) (mk id) rv := by
  obtain ⟨dst, op, type, pos, after, guard⟩ := o
  cases op
  all_goals simp only [akOf] at hk
  all_goals try (cases hk; done)
  case alloc t =>
    obtain ⟨z, hz, e1, e2⟩ : ∃ z, zeroD P t = some z ∧ obj = .row false z ∧ mk = fun id => .ptr id 0 := by
      split at hk
      · rename_i n hb
        cases hk
        simp [Op.operands, galloc] at hv
        exact ⟨_, bigF_zero hb, hv.1.symm, hv.2.symm⟩
      · obtain ⟨z, hz, rfl⟩ := Option.map_eq_some_iff.1 hk
        simp [Op.operands, galloc] at hv
        exact ⟨z, hz, hv.1.symm, hv.2.symm⟩
    subst e1; subst e2
    obtain ⟨zv, hz1, hz2⟩ := zeroD_run (ρ := ρ) hz w
    refine ⟨.pointer (some ⟨w.heap.size, 0, none⟩), _, 0, zv.cells.size, ?_, h.lay_row hid hn (hc_of hz2) (by rw [len_of hz2]; exact Nat.le_refl _) t, ?_⟩
    · simp only [execOp, Instr.alloc, Sem.run_bind, hz1, Result.andThen_ok]
      rfl
    · simp only [VR]; exact ⟨_, Ren.put_same _ _ _, by simp⟩
  case box t x =>
    cases hk
    have h1 := hr x (by simp [Op.operands])
    simp only [Op.operands, List.map_cons, List.map_nil, galloc] at hv
    obtain ⟨cs, hcs, he⟩ := Option.map_eq_some_iff.1 hv
    cases he
    have hc := DV.cells_sound h1 hcs
    refine ⟨.pointer (some ⟨w.heap.size, 0, none⟩), _, 0, (r x).cells.size, ?_, h.lay_row hid hn (hc_of hc) (by rw [len_of hc]; exact Nat.le_refl _) t, ?_⟩
    · rfl
    · simp only [VR]; exact ⟨_, Ren.put_same _ _ _, by simp⟩
  case buildSlice t len parts =>
    split at hk
    · rename_i e ht
      split at hk
      · rename_i s z hs hz
        split at hk
        · rename_i pl hpl
          split at hk
          · rename_i hcond
            obtain ⟨hc1, hc2, hc3⟩ := hcond
            cases hk
            have hops : (Op.buildSlice t len parts).operands.toList.map g = (parts.map (·.2)).toList.map g := by simp [Op.operands]
            rw [hops] at hv
            simp only [galloc] at hv
            obtain ⟨cs, hcs, he⟩ := Option.map_eq_some_iff.1 hv
            cases he
            have hps : VRs ρ ((parts.map (·.2)).toList.map g) ((parts.toList.map fun (i, x) => (i, r x)).map (·.2)) := by
              refine VRs.mk (by simp) fun i x hx => ?_
              simp only [Array.toList_map, List.map_map, List.getElem?_map, Option.map_eq_some_iff] at hx ⊢
              obtain ⟨p, hp, rfl⟩ := hx
              refine ⟨r p.2, ⟨p, hp, rfl⟩, hr p.2 ?_⟩
              simp only [Op.operands, List.mem_toArray, List.mem_map]
              exact ⟨p, List.mem_of_getElem? hp, rfl⟩
            have hpl' : placesOf (fun i => some (i * s, s)) ((parts.toList.map fun (i, x) => (i, r x)).map (·.1)) = some pl := by
              rw [← hpl]; congr 1; simp
            obtain ⟨zv, hz1, hz2⟩ := zeroD_run (ρ := ρ) hz w
            have hZ : ∃ zc : Array Value, (if len * s = 0 then (pure #[] : Sem (Array Value)) else do pure (← zeroValue e).cells).run P w = .ok zc w ∧
                VRs ρ (gzeros z (len * s)) ((Array.range (len * s)).map (fun i => zc[i % zc.size]!)).toList := by
              by_cases h0 : len * s = 0
              · refine ⟨#[], by simp [h0], ?_⟩
                rw [h0]
                have : gzeros z 0 = [] := by unfold gzeros; split <;> simp
                rw [this]; simp; exact VRs.nil
              · refine ⟨zv.cells, by simp [h0, hz1], gzeros_sound hz2 (by omega)⟩
            obtain ⟨zc, hz3, hz4⟩ := hZ
            obtain ⟨rout, hf, hro⟩ := gfill_sound _ _ _ _ _ _ hpl' hz4 hps hcs
            have hlc := len_of hro
            have hfl : rout.size = len * s := by rw [← hlc, gfill_length hcs, gzeros_length]
            refine ⟨.slice (some ⟨w.heap.size, 0, none⟩) len len, _, 0, rout.size, ?_, h.lay_row hid hn (hc_of hro) (by rw [hlc]; exact Nat.le_refl _) e, ?_⟩
            · have e' : (parts.map fun (i, x) => (i, r x)).toList = parts.toList.map fun (i, x) => (i, r x) := by simp
              simp only [execOp, Instr.buildSlice, Sem.run_bind, under_run ht, Result.andThen_ok, sizeD_run hs]
              rw [if_neg (by omega)]
              by_cases h0 : len * s = 0
              · simp only [h0, if_true] at hz3 hf ⊢
                cases hz3
                simp only [Sem.run_bind, Sem.run_pure, Result.andThen_ok]
                rw [e', hf]
                rfl
              · simp only [h0, if_false, Sem.run_bind, hz1, Result.andThen_ok, Sem.run_pure] at hz3
                cases hz3
                simp only [h0, if_false, Sem.run_bind, Sem.run_pure, Result.andThen_ok, hz1]
                rw [e', hf]
                rfl
            · simp only [VR]
              exact ⟨_, _, len, Ren.put_same _ _ _, rfl, Nat.le_refl _, fun _ => by simp, fun c' hc' => by cases hc'; rfl, by simp [hfl]⟩
          · cases hk
        · cases hk
      · cases hk
    · cases hk
  case makeMap t rs =>
    cases rs with
    | some _ => simp at hk
    | none =>
      cases hk
      simp only [galloc] at hv
      cases hv
      refine ⟨.map (some w.heap.size), _, 0, 0, ?_, h.lay_obj hid hn rfl ⟨#[], rfl, rfl, rfl⟩, ?_⟩
      · rfl
      · simp only [VR]; exact ⟨_, Ren.put_same _ _ _, rfl⟩
  case makeSlice t l c =>
    split at hk
    · rename_i e ht
      split at hk
      · rename_i s z b hs hz hb
        split at hk
        · rename_i hcond
          obtain ⟨hc1, hc2⟩ := hcond
          cases hk
          have h1 := hr l (by simp [Op.operands])
          have h2 := hr c (by simp [Op.operands])
          simp only [Op.operands, List.map_cons, List.map_nil] at hv
          cases hl : g l <;> simp only [hl, galloc] at hv <;> try (cases hv; done)
          rename_i kl nl
          cases hcc : g c <;> simp only [hcc, galloc] at hv <;> try (cases hv; done)
          rename_i kc nc
          split at hv
          · rename_i hb4
            obtain ⟨b1, b2, b3, b4⟩ := hb4
            cases hv
            rw [hl] at h1; rw [hcc] at h2
            obtain ⟨i0, hi0, hbb⟩ : ∃ i0, P.info? e = some i0 ∧ i0.bytes = b := by
              cases hq : P.info? e with
              | none => simp [hq] at hb
              | some i0 => exact ⟨i0, rfl, by simpa [hq] using hb⟩
            obtain ⟨zv, hz1, hz2⟩ := zeroD_run (ρ := ρ) hz w
            obtain ⟨m, hm⟩ : ∃ m : Nat, nc = m := ⟨nc.toNat, by omega⟩
            subst hm
            have hwc : IntKind.i64.wrap (m : Int) = m := wrap_i64_in (by omega) (by omega)
            have hwl : IntKind.i64.wrap nl = nl := wrap_i64_in (by omega) (by omega)
            have hZ : ∃ zc : Array Value, (if m * s = 0 then zc = #[] else zc = zv.cells) ∧ VRs ρ (gzeros z (m * s)) ((Array.range (m * s)).map (fun i => zc[i % zc.size]!)).toList := by
              by_cases h0 : m * s = 0
              · refine ⟨#[], by simp [h0], ?_⟩
                rw [h0]
                have : gzeros z 0 = [] := by unfold gzeros; split <;> simp
                rw [this]; simp; exact VRs.nil
              · exact ⟨zv.cells, by simp [h0], gzeros_sound hz2 (by omega)⟩
            obtain ⟨zc, hz3, hz4⟩ := hZ
            have hlc := len_of hz4
            rw [gzeros_length] at hlc
            have hbm : (b : Int) * m ≤ 140737488355328 := by rw [Int.mul_comm]; exact b3
            refine ⟨.slice (some ⟨w.heap.size, 0, none⟩) nl.toNat m, _, 0, _, ?_, h.lay_row hid hn (hc_of hz4) (by simp [gzeros_length]) e, ?_⟩
            · simp only [execOp, Instr.makeSlice, Sem.run_bind, under_run ht, Result.andThen_ok, h1.int_inv, h2.int_inv, asInt, asIntOf, Sem.run_pure, typeInfo, run_program, hi0, hwc, hwl, hbb]
              rw [if_neg (by simp; omega)]
              simp only [Sem.run_bind, run_askRoom, Result.andThen_ok, sizeD_run hs, Int.toNat_natCast]
              by_cases h0 : m * s = 0
              · simp only [h0, if_true] at hz3 ⊢
                subst hz3
                simp only [Sem.run_bind, Sem.run_pure, Result.andThen_ok]
                rfl
              · simp only [h0, if_false] at hz3 ⊢
                subst hz3
                simp only [Sem.run_bind, Sem.run_pure, Result.andThen_ok, hz1]
                rfl
            · simp only [VR]
              refine ⟨_, _, m, Ren.put_same _ _ _, rfl, by omega, fun _ => by simp, fun c' hc' => by simpa using hc', by simp⟩
          · cases hv
        · cases hk
      · cases hk
    · cases hk
end
end Go.Gh
namespace Go.Gh
open Go.RowKit
set_option linter.unusedVariables false
set_option linter.unusedSimpArgs false

/-- What an operation leaves in its temporary. -/
inductive Plain : Next → Value → Prop
  | value (v : Value) : Plain (.value v) v
  | skip : Plain .skip undef

section
variable {P : Program} {N : Nat} {w0 : World} {ρ : Ren} {σ : GS} {w : World}

theorem flat_one {d : DV} {v : Value} (h : VR ρ d v) (hf : d.flat = true) : v.oneCell' = true := by
  cases d <;> simp only [DV.flat] at hf <;> try (cases hf; done)
  all_goals
    simp only [VR] at h
    first
      | (subst h; rfl)
      | (obtain ⟨L, _, rfl⟩ := h; rfl)
      | (obtain ⟨L, a, c, _, rfl, _⟩ := h; rfl)
      | (obtain ⟨a, b, _, _, rfl⟩ := h; rfl)
      | (obtain ⟨b, o, c, a, vs, rfl, _⟩ := h; rfl)
      | (obtain ⟨b, o, vs, rfl, _⟩ := h; rfl)
theorem flat_all {ds : List DV} {vs : List Value} (h : VRs ρ ds vs) (hf : ds.all DV.flat = true) : ∀ v ∈ vs, v.oneCell' = true := by
  intro v hv
  obtain ⟨i, hi⟩ := List.mem_iff_getElem?.1 hv
  have hlt : i < ds.length := by
    have := h.length
    rcases Nat.lt_or_ge i vs.length with h' | h'
    · omega
    · rw [List.getElem?_eq_none h'] at hi; cases hi
  obtain ⟨y, hy, hr⟩ := h.get (i := i) (x := ds[i]) (by simp [hlt])
  rw [hi] at hy; cases hy
  exact flat_one hr (by simpa using (List.all_eq_true.1 hf) ds[i] (List.getElem_mem hlt))

/-- Cells are written over a row of the call's own. -/
theorem Rel.store (h : Rel N w0 ρ σ w) {id : Nat} {L : Loc} {cs new : List DV} (hL : ρ id = some L) (hid : σ[id]? = some (.row false cs)) {off : Nat} (hoff : off + new.length ≤ cs.length) {rnew : List Value} (hn : VRs ρ new rnew) (hf : new.all DV.flat = true) :
    ∃ w', (storeCells ⟨L.blk, L.off + off, none⟩ rnew).run P w = .ok () w' ∧ Rel N w0 ρ (σ.set id (.row false (over cs off new))) w' ∧ Touch w L.blk w' := by
  obtain ⟨a, b, c⟩ := h.row id L false cs hL hid
  obtain ⟨hNL, hle, cur, t, hg, q4⟩ := c rfl
  have hnl := hn.length
  have hs := run_storeCells_at P L.blk (L.off + off) t rnew 0 cur w hg (by omega) (flat_all hn hf)
  refine ⟨_, hs, h.write hL hid hg (by simp; omega) ?_ (by rw [over_length (by omega)]; exact hle), ⟨by simp, fun k hk => setRow_other w _ _ _ hk⟩⟩
  intro j v hv
  unfold over at hv
  simp only [Nat.add_zero, List.getElem?_toArray]
  by_cases h1 : j < off
  · rw [List.getElem?_append_left (by simp; omega), List.getElem?_take, if_pos h1] at hv
    obtain ⟨rv, g1, g2⟩ := a j v hv
    refine ⟨rv, ?_, g2⟩
    rw [List.append_assoc, List.getElem?_append_left (by simp; omega), List.getElem?_take, if_pos (by omega)]
    simp only [World.cell?, hg] at g1
    simpa using g1
  · rw [List.getElem?_append_right (by simp; omega)] at hv
    have e1 : (cs.take off).length = off := by simp; omega
    rw [e1] at hv
    by_cases h2 : j - off < new.length
    · rw [List.getElem?_append_left h2] at hv
      obtain ⟨y, hy, hr⟩ := hn.get hv
      refine ⟨y, ?_, hr⟩
      rw [List.append_assoc, List.getElem?_append_right (by simp; omega)]
      have e2 : (cur.toList.take (L.off + off)).length = L.off + off := by simp; omega
      rw [e2, List.getElem?_append_left (by omega), ← hy]
      congr 1; omega
    · rw [List.getElem?_append_right (by omega), List.getElem?_drop] at hv
      obtain ⟨rv, g1, g2⟩ := a _ v hv
      refine ⟨rv, ?_, g2⟩
      rw [List.append_assoc, List.getElem?_append_right (by simp; omega)]
      have e2 : (cur.toList.take (L.off + off)).length = L.off + off := by simp; omega
      rw [e2, List.getElem?_append_right (by omega), List.getElem?_drop]
      simp only [World.cell?, hg] at g1
      rw [Array.getElem?_toList, ← show cur[L.off + (off + new.length + (j - off - new.length))]? = some rv by simpa using g1]
      congr 1; omega

theorem Rel.kill (h : Rel N w0 ρ σ w) (id : Nat) : Rel N w0 ρ (σ.set id .dead) w where
  below := h.below
  hN := h.hN
  dom := fun i L hi => by simpa using h.dom i L hi
  lt := h.lt
  row := fun i L ro cs h1 h2 => by
    by_cases hii : i = id
    · subst hii; rw [List.getElem?_set_self (h.dom _ _ h1)] at h2; cases h2
    · rw [getElem?_set_ne _ hii] at h2; exact h.row i L ro cs h1 h2
  obj := fun i L o h1 h2 hs => by
    by_cases hii : i = id
    · subst hii; rw [List.getElem?_set_self (h.dom _ _ h1)] at h2; cases h2; cases hs
    · rw [getElem?_set_ne _ hii] at h2; exact h.obj i L o h1 h2 hs
  disj := fun i j Li Lj hij hi hj oi oj => by
    have ho : ∀ k Lk, ρ k = some Lk → own (σ.set id .dead) k → own σ k := by
      intro k Lk hk ok
      by_cases hii : k = id
      · subst hii; unfold own at ok; rw [List.getElem?_set_self (h.dom _ _ hk)] at ok; simp [GObj.special] at ok
      · exact own_of_set hii ok
    exact h.disj i j Li Lj hij hi hj (ho _ _ hi oi) (ho _ _ hj oj)
  fzw := h.fzw
  fzo := fun b o v i L hv hi oi => h.fzo b o v i L hv hi (by
    by_cases hii : i = id
    · subst hii; unfold own at oi; rw [List.getElem?_set_self (h.dom _ _ hi)] at oi; simp [GObj.special] at oi
    · exact own_of_set hii oi)

theorem Rel.none_at (h : Rel N w0 ρ σ w) {id : Nat} (hid : σ.length ≤ id) : ρ id = none := by
  cases hq : ρ id with
  | none => rfl
  | some M => have := h.dom _ _ hq; omega
/-- The cells of a slice. -/
theorem gread_run {sz : Nat} {x : DV} {cs : List DV} (hc : gread sz x σ = some cs) {v : Value} (hv : VR ρ x v) (h : Rel N w0 ρ σ w) :
    (Builtin.lenOf v).run P w = .ok (glen x) w ∧ cs.length = glen x * sz ∧ ∀ n, n ≤ glen x → ∃ rs : List Value, (Builtin.firstCells sz n v).run P w = .ok rs.toArray w ∧ VRs ρ (cs.take (n * sz)) rs := by
  unfold gread at hc
  split at hc
  · cases hc
    have := hv.nils_inv; subst this
    refine ⟨rfl, by simp [glen], fun n hn => ⟨[], by simp [Builtin.firstCells], by simpa using VRs.nil⟩⟩
  · rename_i id off len sz' cap
    obtain ⟨L, a, c, hL, rfl, h1, h2, h3, h4⟩ := hv.slice_inv
    refine ⟨rfl, ?_⟩
    split at hc
    · rename_i h0
      cases hc
      subst h0
      refine ⟨by simp [glen], fun n hn => ?_⟩
      have hn0 : n = 0 := by simpa [glen] using hn
      subst hn0
      refine ⟨[], ?_, by simpa using VRs.nil⟩
      cases a <;> simp [Builtin.firstCells, loadCells, loadCellsFrom]
    · rename_i h0
      split at hc
      case isFalse => cases hc
      rename_i hsz; subst hsz
      have ha := h2 (by omega)
      subst ha
      split at hc
      · rename_i ro row hrow
        split at hc
        · rename_i hle
          cases hc
          obtain ⟨hcells, _⟩ := h.row id L ro row hL hrow
          refine ⟨by simp [glen]; omega, fun n hn => ?_⟩
          simp only [glen] at hn
          have hmul : n * sz' ≤ len * sz' := Nat.mul_le_mul_right _ hn
          obtain ⟨rs, g1, g2⟩ := loadCells_run (P := P) hcells (off := off) (n := n * sz') (by omega)
          refine ⟨rs, by simpa [Builtin.firstCells] using g1, ?_⟩
          rw [List.take_take, Nat.min_eq_left hmul]
          exact g2
        · cases hc
      · cases hc
  · rename_i sz' es
    obtain ⟨b, o, c, a, vs, rfl, h1, h2, h3, h4, h5⟩ := hv.fsl_inv
    split at hc
    case isFalse => cases hc
    rename_i hsz; subst hsz
    cases hc
    have hfl := flatten_len h4
    have hvl := h3.length
    refine ⟨rfl, by simpa [glen] using hfl, fun n hn => ?_⟩
    simp only [glen] at hn
    have hmul : n * sz' ≤ es.length * sz' := Nat.mul_le_mul_right _ hn
    refine ⟨vs.take (n * sz'), ?_, h3.take _⟩
    cases a with
    | some ad =>
      by_cases hc0 : c = 0
      · obtain rfl : n = 0 := by omega
        simp [Builtin.firstCells, loadCells, loadCellsFrom]
      · have := h2 hc0; cases this
        simpa [Builtin.firstCells] using loadFz_run (P := P) h h5 (n := n * sz') (by omega)
    | none =>
      have hc0 : c = 0 := by
        rcases Nat.eq_zero_or_pos c with h' | h'
        · exact h'
        · have := h2 (by omega); cases this
      obtain rfl : n = 0 := by omega
      simp [Builtin.firstCells]
  · cases hc
end
end Go.Gh
namespace Go.Gh
open Go.RowKit
set_option linter.unusedVariables false
set_option linter.unusedSimpArgs false

section
variable {P : Program} {N : Nat} {w0 : World} {ρ : Ren} {σ : GS} {w : World}

/-- append, where the cells fit in place. -/
theorem append_here {ats : Array TypeId} {ty t t2 e e2 : TypeId} {sz : Nat} (h0 : ats[0]? = some t) (h1 : ats[1]? = some t2) (ht : P.underlying t = some (.slice e)) (ht2 : P.underlying t2 = some (.slice e2)) (hs : sizeD P e = some sz)
    {args : Array Value} {base : Option Addr} {len c n : Nat} {x : Value} (a0 : args[0]? = some (.slice base len c)) (a1 : args[1]? = some x) (hl : (Builtin.lenOf x).run P w = .ok n w) {new : List Value} (hx : (Builtin.firstCells sz n x).run P w = .ok new.toArray w)
    (hfit : len + n ≤ c) {w' : World} (hst : ∀ a, base = some a → (storeCells (a.add (len * sz)) new).run P w = .ok () w') (hst0 : base = none → w' = w) :
    (Builtin.append_ ats ty args).run P w = .ok (.slice base (len + n) c) w' := by
  unfold Builtin.append_
  simp only [h0, a0, a1, h1, Sem.run_bind, under_run ht, under_run ht2, sizeD_run hs, Result.andThen_ok, Sem.run_pure]
  simp only [Bool.false_eq_true, if_false, Bool.not_false, if_true, hl, Result.andThen_ok, if_pos hfit, Sem.run_bind, hx]
  cases base with
  | none => simp [hst0 rfl]
  | some a => simp [hst a rfl]

/-- append, where a new row is made. -/
theorem append_new {ats : Array TypeId} {ty t t2 e e2 : TypeId} {sz b : Nat} (h0 : ats[0]? = some t) (h1 : ats[1]? = some t2) (ht : P.underlying t = some (.slice e)) (ht2 : P.underlying t2 = some (.slice e2)) (hs : sizeD P e = some sz)
    (hb : (P.info? e).map (·.bytes) = some b) {z : List DV} (hz : zeroD P e = some z) {args : Array Value} {base : Option Addr} {len c n : Nat} {x : Value} (a0 : args[0]? = some (.slice base len c)) (a1 : args[1]? = some x) (hl : (Builtin.lenOf x).run P w = .ok n w)
    {old new : List Value} (hlc : len ≤ c) (hfit : c < len + n) (hgrow : growOk (len + n) b = true)
    (ho : (Builtin.firstCells sz len (.slice base len c)).run P { w with drawn := w.drawn + 1 } = .ok old.toArray { w with drawn := w.drawn + 1 }) (hx : (Builtin.firstCells sz n x).run P { w with drawn := w.drawn + 1 } = .ok new.toArray { w with drawn := w.drawn + 1 }) :
    ∃ cap rest, len + n ≤ cap ∧ rest.size = (cap - (len + n)) * z.length ∧ (Builtin.append_ ats ty args).run P w = .ok (.slice (some ⟨w.heap.size, 0, none⟩) (len + n) cap) (({ w with drawn := w.drawn + 1 } : World).alloc (.cells (old.toArray ++ new.toArray ++ rest) e (0, 0))) := by
  obtain ⟨i0, hi0, hbb⟩ : ∃ i0, P.info? e = some i0 ∧ i0.bytes = b := by
    cases hq : P.info? e with
    | none => simp [hq] at hb
    | some i0 => exact ⟨i0, rfl, by simpa [hq] using hb⟩
  simp only [growOk, Bool.and_eq_true, decide_eq_true_eq, bne_iff_ne, ne_eq] at hgrow
  have hfits := growslice_fits hfit hgrow.1
  obtain ⟨zv, hz1, hz2⟩ := zeroD_run (ρ := ⟨fun _ => none, fun _ _ => none⟩) hz { w with drawn := w.drawn + 1 }
  have hzl : zv.cells.size = z.length := by simpa using hz2.length
  refine ⟨(Question.appendCap (len + n) c e).cut (w.tape w.drawn (.appendCap (len + n) c e)), Builtin.zeroCells zv.cells ((Question.appendCap (len + n) c e).cut (w.tape w.drawn (.appendCap (len + n) c e)) - (len + n)), ?_, ?_, ?_⟩
  · simp [Question.cut]
  · simp [Builtin.zeroCells, hzl]
  · unfold Builtin.append_
    simp only [h0, a0, a1, h1, Sem.run_bind, under_run ht, under_run ht2, sizeD_run hs, Result.andThen_ok, Sem.run_pure]
    simp only [Bool.false_eq_true, if_false, Bool.not_false, if_true, hl, Result.andThen_ok, if_neg (Nat.not_le.2 hfit), Sem.run_bind, typeInfo, run_program, hi0, Sem.run_pure, hbb]
    rw [if_neg (by simp; omega)]
    simp only [Sem.run_bind, Result.andThen_ok, typeInfo, run_program, hi0, Sem.run_pure, hbb]
    rw [if_neg (by omega)]
    simp only [Sem.run_bind, run_choose, Question.forced, Bool.false_eq_true, if_false, Result.andThen_ok, run_program, hi0, Sem.run_pure, run_askRoom, ho, hx, hz1]
    rfl
end
end Go.Gh
