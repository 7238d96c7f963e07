/-
  Proved: Dqbf, Deps and Linear return what the chapter's own functions return, errors too; where what is read is of bulk at most 1048576.
  Part 5 of 10. Conditions: none. A verified frame that runs compiled texts over a ghost heap, the contracts of the functions that the statement reaches, and the plain law.
-/
import Derived.Test.YtgmmhhbmnfnloaaGreatXN4
import Derived.Shelf.Sort.Plain
import Derived.Shelf.Slices.In.SortNone
import Derived.Shelf.SlSortCmp.NoneTotal
namespace Go.Gh
open Go.RowKit
set_option linter.unusedVariables false
set_option linter.unusedSimpArgs false

mutual
def DV.same : DV → DV → Bool
  | .any, .any => true
  | .bool a, .bool b => a == b
  | .int k a, .int j b => k == j && a == b
  | .nilp, .nilp => true
  | .ptr a b, .ptr c d => a == c && b == d
  | .nils, .nils => true
  | .slice a b c d e, .slice a' b' c' d' e' => a == a' && b == b' && c == c' && d == d' && e == e'
  | .nilmap, .nilmap => true
  | .map a, .map b => a == b
  | .nilf, .nilf => true
  | .func f a b, .func g c d => f == g && sames a c && sames b d
  | .yield a, .yield b => a == b
  | .agg a, .agg b => sames a b
  | .tuple a, .tuple b => sames a b
  | .fsl a x, .fsl b y => a == b && samess x y
  | .fptr x, .fptr y => sames x y
  | _, _ => false
def samess : List (List DV) → List (List DV) → Bool
  | [], [] => true
  | x :: xs, y :: ys => sames x y && samess xs ys
  | _, _ => false
def sames : List DV → List DV → Bool
  | [], [] => true
  | x :: xs, y :: ys => x.same y && sames xs ys
  | _, _ => false
end
mutual
theorem DV.same_eq : ∀ {a b : DV}, a.same b = true → a = b
  | .any, b, h => by cases b <;> simp_all [DV.same]
  | .bool _, b, h => by cases b <;> simp_all [DV.same]
  | .int _ _, b, h => by cases b <;> simp_all [DV.same]
  | .str _, b, h => by cases b <;> simp_all [DV.same]
  | .nilp, b, h => by cases b <;> simp_all [DV.same]
  | .ptr _ _, b, h => by cases b <;> simp_all [DV.same]
  | .nils, b, h => by cases b <;> simp_all [DV.same]
  | .slice _ _ _ _ _, b, h => by cases b <;> simp_all [DV.same]
  | .nilmap, b, h => by cases b <;> simp_all [DV.same]
  | .map _, b, h => by cases b <;> simp_all [DV.same]
  | .nilf, b, h => by cases b <;> simp_all [DV.same]
  | .func f x y, b, h => by
    cases b <;> simp only [DV.same, Bool.and_eq_true, beq_iff_eq] at h <;> try (cases h; done)
    obtain ⟨⟨h1, h2⟩, h3⟩ := h
    rw [h1, sames_eq h2, sames_eq h3]
  | .yield _, b, h => by cases b <;> simp_all [DV.same]
  | .agg x, b, h => by
    cases b <;> simp only [DV.same] at h <;> try (cases h; done)
    rw [sames_eq h]
  | .tuple x, b, h => by
    cases b <;> simp only [DV.same] at h <;> try (cases h; done)
    rw [sames_eq h]
  | .fsl n x, b, h => by
    cases b <;> simp only [DV.same, Bool.and_eq_true, beq_iff_eq] at h <;> try (cases h; done)
    rw [h.1, samess_eq h.2]
  | .fptr x, b, h => by
    cases b <;> simp only [DV.same] at h <;> try (cases h; done)
    rw [sames_eq h]
theorem samess_eq : ∀ {a b : List (List DV)}, samess a b = true → a = b
  | [], b, h => by cases b <;> simp_all [samess]
  | x :: xs, b, h => by
    cases b with
    | nil => simp [samess] at h
    | cons y ys =>
      simp only [samess, Bool.and_eq_true] at h
      rw [sames_eq h.1, samess_eq h.2]
theorem sames_eq : ∀ {a b : List DV}, sames a b = true → a = b
  | [], b, h => by cases b <;> simp_all [sames]
  | x :: xs, b, h => by
    cases b with
    | nil => simp [sames] at h
    | cons y ys =>
      simp only [sames, Bool.and_eq_true] at h
      rw [DV.same_eq h.1, sames_eq h.2]
end
def samePairs : List (DV × DV) → List (DV × DV) → Bool
  | [], [] => true
  | (a, b) :: l, (c, d) :: m => a.same c && b.same d && samePairs l m
  | _, _ => false
theorem samePairs_eq : ∀ {a b : List (DV × DV)}, samePairs a b = true → a = b
  | [], b, h => by cases b <;> simp_all [samePairs]
  | (a, b) :: l, m, h => by
    cases m with
    | nil => simp [samePairs] at h
    | cons c m =>
      obtain ⟨c, d⟩ := c
      simp only [samePairs, Bool.and_eq_true] at h
      rw [DV.same_eq h.1.1, DV.same_eq h.1.2, samePairs_eq h.2]
def sameObj : Option GObj → Option GObj → Bool
  | some (.row r a), some (.row s b) => r == s && sames a b
  | some (.mp a s), some (.mp b t) => samePairs a b && s == t
  | some .dead, some .dead => true
  | _, _ => false
theorem sameObj_eq {a b : Option GObj} (h : sameObj a b = true) : a = b := by
  unfold sameObj at h
  split at h
  · simp only [Bool.and_eq_true, beq_iff_eq] at h; rw [h.1, sames_eq h.2]
  · simp only [Bool.and_eq_true, beq_iff_eq] at h; rw [samePairs_eq h.1, h.2]
  · rfl
  · cases h
/-- Has a list so many elements? It is not walked to its end. (Written by recursors: the kernel walks these faster.) -/
noncomputable def hasLen (l : List DV) : Nat → Bool := List.rec (motive := fun _ => Nat → Bool) (fun n => Nat.rec (motive := fun _ => Bool) true (fun _ _ => false) n) (fun _ _ ih n => Nat.rec (motive := fun _ => Bool) true (fun m _ => ih m) n) l
theorem hasLen_le : ∀ {l : List DV} {n : Nat}, hasLen l n = true → n ≤ l.length
  | _, 0, _ => Nat.zero_le _
  | [], _ + 1, h => by cases h
  | _ :: l, n + 1, h => by have := hasLen_le (l := l) (n := n) h; simp; omega
noncomputable def rep (n : Nat) (d : DV) : List DV := Nat.rec (motive := fun _ => List DV) [] (fun _ l => d :: l) n
theorem rep_eq : ∀ (n : Nat) (d : DV), rep n d = List.replicate n d
  | 0, _ => rfl
  | n + 1, d => by rw [List.replicate_succ, ← rep_eq n d]; rfl
noncomputable def nthE (l : List DV) : Nat → Option DV := List.rec (motive := fun _ => Nat → Option DV) (fun _ => none) (fun x _ ih n => Nat.rec (motive := fun _ => Option DV) (some x) (fun m _ => ih m) n) l
theorem nthE_eq : ∀ (l : List DV) (n : Nat), nthE l n = l[n]?
  | [], _ => rfl
  | _ :: _, 0 => rfl
  | x :: l, n + 1 => by show nthE l n = _; rw [nthE_eq l n]; rfl
/-- An object of the evaluator's heap: an object, or a long row of one's own. -/
inductive EO where
  | obj (o : GObj)
  | big (n : Nat) (d : DV) (ch : List (Nat × DV))
def bigL (n : Nat) (d : DV) : List (Nat × DV) → List DV
  | [] => List.replicate n d
  | p :: ch => (bigL n d ch).set p.1 p.2
def chGet (d : DV) (i : Nat) : List (Nat × DV) → DV
  | [] => d
  | p :: ch => if i = p.1 then p.2 else chGet d i ch
theorem bigL_len (n : Nat) (d : DV) : ∀ ch, (bigL n d ch).length = n
  | [] => by simp [bigL]
  | p :: ch => by simp [bigL, bigL_len n d ch]
theorem bigL_get (n : Nat) (d : DV) {i : Nat} (hi : i < n) : ∀ ch, (bigL n d ch)[i]? = some (chGet d i ch)
  | [] => by simp [bigL, chGet, hi]
  | p :: ch => by
    have hl := bigL_len n d ch
    simp only [bigL, chGet]
    rw [List.getElem?_set]
    by_cases h : i = p.1
    · subst h; rw [if_pos rfl, if_pos rfl, if_pos (by omega)]
    · rw [if_neg (fun e => h e.symm), if_neg h, bigL_get n d hi ch]
def EO.den : EO → GObj
  | .obj o => o
  | .big n d ch => .row false (bigL n d ch)
/-- The evaluator's heap. -/
structure HT where
  n : Nat
  t : TR EO
noncomputable def HT.get (h : HT) (i : Nat) : Option EO := if i < h.n then (if i < 8192 then some ((tget 13 h.t i).getD (.obj .dead)) else none) else none
noncomputable def HT.set (h : HT) (i : Nat) (e : EO) : HT := if i < 8192 then ⟨h.n, tset e 13 h.t i⟩ else h
noncomputable def HT.push (h : HT) (e : EO) : Option HT := if h.n < 8192 then some ⟨h.n + 1, tset e 13 h.t h.n⟩ else none
/-- The ghost heap that it stands for. -/
noncomputable def den (h : HT) : GS := (List.range (min h.n 8192)).map fun i => ((tget 13 h.t i).getD (.obj .dead)).den
theorem den_get (h : HT) (i : Nat) : (den h)[i]? = (h.get i).map EO.den := by
  unfold den HT.get
  rw [List.getElem?_map]
  by_cases h1 : i < h.n
  · by_cases h2 : i < 8192
    · rw [if_pos h1, if_pos h2, List.getElem?_range (by omega)]; rfl
    · rw [if_pos h1, if_neg h2, List.getElem?_eq_none (by simp; omega)]; rfl
  · rw [if_neg h1, List.getElem?_eq_none (by simp; omega)]; rfl
theorem den_len (h : HT) : (den h).length = min h.n 8192 := by simp [den]
theorem den_set (h : HT) (i : Nat) (e : EO) : den (h.set i e) = (den h).set i e.den := by
  unfold HT.set
  split
  · rename_i h1
    apply List.ext_getElem?
    intro j
    rw [List.getElem?_set, den_len]
    unfold den
    simp only [List.getElem?_map]
    by_cases h2 : j < min h.n 8192
    · rw [List.getElem?_range h2]
      simp only [Option.map_some]
      rw [tget_tset e 13 h.t i j (by omega) (by omega)]
      by_cases h3 : i = j
      · subst h3; rw [if_pos rfl, if_pos rfl, if_pos h2]; rfl
      · rw [if_neg h3, if_neg h3]
    · rw [List.getElem?_eq_none (by simp; omega)]
      by_cases h3 : i = j
      · subst h3; rw [if_pos rfl, if_neg h2]; rfl
      · rw [if_neg h3]; rfl
  · rename_i h1
    rw [List.set_eq_of_length_le (by rw [den_len]; omega)]
theorem den_push {h h' : HT} {e : EO} (k : h.push e = some h') : den h' = den h ++ [e.den] ∧ h.n = (den h).length := by
  unfold HT.push at k
  split at k
  · rename_i h1
    cases k
    refine ⟨?_, by rw [den_len]; omega⟩
    unfold den
    rw [show min (h.n + 1) 8192 = h.n + 1 by omega, show min h.n 8192 = h.n by omega, List.range_succ, List.map_append]
    congr 1
    · apply List.map_congr_left
      intro j hj
      rw [List.mem_range] at hj
      rw [tget_tset e 13 h.t h.n j (by omega) (by omega), if_neg (by omega)]
    · simp only [List.map_cons, List.map_nil]
      rw [tget_tset e 13 h.t h.n h.n (by omega) (by omega), if_pos rfl]; rfl
  · cases k
noncomputable def HT.getO (h : HT) (i : Nat) : Option GObj := (h.get i).map EO.den
theorem getO_eq (h : HT) : h.getO = fun i => (den h)[i]? := by funext i; rw [den_get]; rfl
noncomputable def HT.eds : List Ed → HT → Option HT
  | [], h => some h
  | .set i o :: r, h => HT.eds r (h.set i (.obj o))
  | .push o :: r, h => match h.push (.obj o) with
    | some h' => HT.eds r h'
    | none => none
theorem eds_ok : ∀ {l : List Ed} {h h' : HT}, HT.eds l h = some h' → den h' = edG l (den h)
  | [], h, h', k => by cases k; rfl
  | .set i o :: r, h, h', k => by
    have := eds_ok (l := r) k
    rw [this, den_set]; rfl
  | .push o :: r, h, h', k => by
    simp only [HT.eds] at k
    split at k
    · rename_i h1 hp
      rw [eds_ok (l := r) k, (den_push hp).1]; rfl
    · cases k
/-- The evaluator's variables. -/
structure VT where
  n : Nat
  t : TR DV
noncomputable def VT.get (e : VT) (t : Nat) : Option DV := if t < e.n then (if t < 1024 then some ((tget 10 e.t t).getD (.tuple [])) else none) else none
noncomputable def VT.set (e : VT) (t : Nat) (v : DV) : VT := if t < 1024 then ⟨e.n, tset v 10 e.t t⟩ else e
noncomputable def denE (e : VT) : Env := (List.range (min e.n 1024)).map fun i => (tget 10 e.t i).getD (.tuple [])
theorem denE_get (e : VT) (i : Nat) : (denE e)[i]? = e.get i := by
  unfold denE VT.get
  rw [List.getElem?_map]
  by_cases h1 : i < e.n
  · by_cases h2 : i < 1024
    · rw [if_pos h1, if_pos h2, List.getElem?_range (by omega)]; rfl
    · rw [if_pos h1, if_neg h2, List.getElem?_eq_none (by simp; omega)]; rfl
  · rw [if_neg h1, List.getElem?_eq_none (by simp; omega)]; rfl
theorem denE_len (e : VT) : (denE e).length = min e.n 1024 := by simp [denE]
theorem denE_set (e : VT) (i : Nat) (v : DV) : denE (e.set i v) = (denE e).set i v := by
  unfold VT.set
  split
  · rename_i h1
    apply List.ext_getElem?
    intro j
    rw [List.getElem?_set, denE_len]
    unfold denE
    simp only [List.getElem?_map]
    by_cases h2 : j < min e.n 1024
    · rw [List.getElem?_range h2]
      simp only [Option.map_some]
      rw [tget_tset v 10 e.t i j (by omega) (by omega)]
      by_cases h3 : i = j
      · subst h3; rw [if_pos rfl, if_pos rfl, if_pos h2]; rfl
      · rw [if_neg h3, if_neg h3]
    · rw [List.getElem?_eq_none (by simp; omega)]
      by_cases h3 : i = j
      · subst h3; rw [if_pos rfl, if_neg h2]; rfl
      · rw [if_neg h3]; rfl
  · rename_i h1
    rw [List.set_eq_of_length_le (by rw [denE_len]; omega)]
noncomputable def VT.fill (l : List DV) : Nat → VT → VT := List.rec (motive := fun _ => Nat → VT → VT) (fun _ e => e) (fun v _ ih i e => ih (i + 1) (e.set i v)) l
theorem fill_ok : ∀ (l : List DV) (i : Nat) (e : VT), i + l.length ≤ (denE e).length → denE (VT.fill l i e) = (denE e).take i ++ l ++ (denE e).drop (i + l.length)
  | [], i, e, _ => by show denE e = _; simp
  | v :: l, i, e, h => by
    show denE (VT.fill l (i + 1) (e.set i v)) = _
    simp only [List.length_cons] at h
    rw [fill_ok l (i + 1) (e.set i v) (by rw [denE_set]; simp; omega), denE_set]
    have hi : i < (denE e).length := by omega
    rw [List.take_set, List.take_succ_eq_append_getElem hi, List.set_append_right _ _ (by simp; omega)]
    simp only [List.length_take, List.length_cons]
    rw [show i - min i (denE e).length = 0 by omega]
    rw [List.drop_set_of_lt (by omega)]
    simp only [List.set_cons_zero, List.append_assoc, List.cons_append, List.nil_append]
    rw [show i + 1 + l.length = i + (l.length + 1) by omega]
noncomputable def VT.new (args : List DV) (n : Nat) : VT := VT.fill args 0 ⟨n, .e⟩
theorem new_ok {args : List DV} {n : Nat} (h1 : args.length ≤ n) (h2 : n ≤ 1024) : denE (VT.new args n) = genv0 args n := by
  have he : denE ⟨n, .e⟩ = List.replicate n (.tuple []) := by
    unfold denE
    rw [show min n 1024 = n by omega]
    apply List.ext_getElem?
    intro j
    rw [List.getElem?_map]
    by_cases hj : j < n
    · rw [List.getElem?_range hj]; simp [tget_e, hj]
    · rw [List.getElem?_eq_none (by simp; omega), List.getElem?_eq_none (by simp; omega)]; rfl
  unfold VT.new
  rw [fill_ok args 0 _ (by rw [he]; simp; omega), he]
  simp [genv0]
noncomputable def loadH (k : LK) (l : List DV) (σ : HT) : Option DV :=
  match k, l with
  | .load n false, [.ptr id off] => match σ.get id with
    | some (.obj (.row _ cs)) => nthE cs off
    | some (.big n d ch) => if off < n then some (chGet d off ch) else none
    | _ => none
  | .aslice n sz true false, [.ptr id off, lo] => match σ.get id with
    | some (.obj (.row false cs)) => if hasLen cs (off + n * sz) = true then (gbh none false n n).bind fun h => (gbl (some lo) h).bind fun l => some (.slice id (off + l * sz) (h - l) sz (some (n - l))) else none
    | some (.big N d ch) => if off + n * sz ≤ N then (gbh none false n n).bind fun h => (gbl (some lo) h).bind fun l => some (.slice id (off + l * sz) (h - l) sz (some (n - l))) else none
    | _ => none
  | k, l => gloadG σ.getO k l
theorem den_at {h : HT} {i : Nat} {e : EO} (k : h.get i = some e) : (den h)[i]? = some e.den := by rw [den_get, k]; rfl
theorem loadH_ok {k : LK} {l : List DV} {σ : HT} {v : DV} (h : loadH k l σ = some v) : gload k l (den σ) = some v := by
  unfold loadH at h
  split at h
  · rename_i n id off
    simp only [gload]
    split at h
    · rename_i ro cs hs
      simp only [den_at hs, EO.den, Bool.false_eq_true, if_false]
      rw [← nthE_eq]; exact h
    · rename_i N d ch hs
      split at h
      · rename_i ho
        simp only [den_at hs, EO.den, Bool.false_eq_true, if_false]
        rw [bigL_get N d ho]; exact h
      · cases h
    · cases h
  · rename_i n sz id off lo
    simp only [gload, gaslice]
    split at h
    · rename_i cs hs
      split at h
      · rename_i hl
        simp only [den_at hs, EO.den]
        rw [if_pos (hasLen_le hl)]; exact h
      · cases h
    · rename_i N d ch hs
      split at h
      · rename_i hl
        simp only [den_at hs, EO.den]
        rw [if_pos (by rw [bigL_len]; exact hl)]; exact h
      · cases h
    · cases h
  · rw [getO_eq, gloadG_eq] at h; exact h
noncomputable def allocH : AK → List DV → Option (EO × (Nat → DV))
  | .abig n d, [] => some (.big n d [], fun id => .ptr id 0)
  | .mslice sz bytes [z], [.int _ l, .int _ c] => if 0 ≤ l ∧ l ≤ c ∧ c * bytes ≤ 140737488355328 ∧ c ≤ 140737488355328 then some (if 64 < c.toNat * sz then .big (c.toNat * sz) z [] else .obj (.row false (rep (c.toNat * sz) z)), fun id => .slice id 0 l.toNat sz (some c.toNat)) else none
  | k, l => (galloc k l).map fun p => (.obj p.1, p.2)
theorem allocH_ok {k : AK} {l : List DV} {e : EO} {mk : Nat → DV} (h : allocH k l = some (e, mk)) : galloc k l = some (e.den, mk) := by
  unfold allocH at h
  split at h
  · cases h; rfl
  · simp only [galloc, gzeros]
    split at h
    · rename_i hc
      rw [if_pos hc]
      cases h
      split <;> simp [EO.den, bigL, rep_eq]
    · cases h
  · obtain ⟨p, hp, he⟩ := Option.map_eq_some_iff.1 h
    cases he; exact hp
noncomputable def impH (k : IK) (l : List DV) (σ : HT) : Option (DV × HT) :=
  match k, l with
  | .store n, [.ptr id off, v] => match σ.get id, v.cells with
    | some (.obj (.row false cs)), some new => if new.length = n ∧ hasLen cs (off + n) = true ∧ new.all DV.flat then some (.tuple [], σ.set id (.obj (.row false (over cs off new)))) else none
    | some (.big N d ch), some [u] => if n = 1 ∧ off < N ∧ u.flat = true then some (.tuple [], σ.set id (.big N d ((off, u) :: ch))) else none
    | _, _ => none
  | k, l => if σ.n ≤ 8192 then match gimpG σ.getO σ.n k l with
    | some (v, es) => match HT.eds es σ with
      | some σ' => some (v, σ')
      | none => none
    | none => none
    else none
theorem impH_ok {k : IK} {l : List DV} {σ σ' : HT} {v : DV} (h : impH k l σ = some (v, σ')) : gimp k l (den σ) = some (v, den σ') := by
  unfold impH at h
  split at h
  · rename_i n id off v
    simp only [gimp]
    split at h
    · rename_i cs new h1 h2
      split at h
      · rename_i hc
        simp only [den_at h1, EO.den, h2]
        rw [if_pos ⟨hc.1, hasLen_le hc.2.1, hc.2.2⟩]
        cases h
        rw [den_set]; rfl
      · cases h
    · rename_i N d ch u h1 h2
      split at h
      · rename_i hc
        obtain ⟨rfl, h3, h4⟩ := hc
        simp only [den_at h1, EO.den, h2]
        rw [if_pos ⟨rfl, by rw [bigL_len]; omega, by simp [h4]⟩]
        cases h
        rw [den_set, over_one (by rw [bigL_len]; exact h3)]; rfl
      · cases h
    · cases h
  · split at h
    · rename_i hn
      split at h
      · rename_i u es hg
        split at h
        · rename_i τ he
          cases h
          have hl : σ.n = (den σ).length := by rw [den_len]; omega
          rw [← gimpG_eq, ← getO_eq, ← hl, hg]
          simp only [Option.map_some, edR, eds_ok he]
        · cases h
      · cases h
    · cases h
def sameCh : List (Nat × DV) → List (Nat × DV) → Bool
  | [], [] => true
  | (a, b) :: l, (c, d) :: m => a == c && b.same d && sameCh l m
  | _, _ => false
theorem sameCh_eq : ∀ {a b : List (Nat × DV)}, sameCh a b = true → a = b
  | [], b, h => by cases b <;> simp_all [sameCh]
  | (a, b) :: l, m, h => by
    cases m with
    | nil => simp [sameCh] at h
    | cons c m =>
      obtain ⟨c, d⟩ := c
      simp only [sameCh, Bool.and_eq_true, beq_iff_eq] at h
      rw [h.1.1, DV.same_eq h.1.2, sameCh_eq h.2]
def sameEO : Option EO → Option EO → Bool
  | some (.obj a), some (.obj b) => sameObj (some a) (some b)
  | some (.big n d c), some (.big m e f) => n == m && d.same e && sameCh c f
  | _, _ => false
theorem sameEO_eq {a b : Option EO} (h : sameEO a b = true) : a = b := by
  unfold sameEO at h
  split at h
  · have := sameObj_eq h; simp only [Option.some.injEq] at this; rw [this]
  · simp only [Bool.and_eq_true, beq_iff_eq] at h; rw [h.1.1, DV.same_eq h.1.2, sameCh_eq h.2]
  · cases h
noncomputable def gargT (e : VT) : GArg → DV
  | .tmp t => (e.get t).getD (.tuple [])
  | .const d => d
theorem gargT_eq (e : VT) (a : GArg) : gargT e a = garg (denE e) a := by
  cases a with
  | tmp t => simp only [gargT, garg, denE_get]
  | const d => rfl
noncomputable def gargsT (e : VT) (l : List GArg) : List DV := List.rec (motive := fun _ => List DV) [] (fun a _ ih => gargT e a :: ih) l
theorem gargsT_eq (e : VT) : ∀ l, gargsT e l = l.map (garg (denE e))
  | [] => rfl
  | a :: l => by show gargT e a :: gargsT e l = _; rw [gargT_eq, gargsT_eq e l]; rfl
noncomputable def gonT (e : VT) : Option (Tmp × Bool) → Option Bool
  | none => some true
  | some (t, want) => match e.get t with
    | some (.bool b) => some (b == want)
    | some (.tuple _) => some false
    | _ => none
theorem gonT_eq (e : VT) (g : Option (Tmp × Bool)) : gonT e g = gon (denE e) g := by
  cases g with
  | none => rfl
  | some p =>
    obtain ⟨t, w⟩ := p
    simp only [gonT, gon, denE_get]
    generalize e.get t = q
    rcases q with _ | d
    · rfl
    · cases d <;> rfl
noncomputable def gputT (e : VT) (d : Option Tmp) (v : DV) : VT :=
  match d with
  | some t => e.set t v
  | none => e
theorem gputT_eq (e : VT) (d : Option Tmp) (v : DV) : denE (gputT e d v) = gput (denE e) d v := by
  cases d with
  | none => rfl
  | some t => exact denE_set e t v
noncomputable def erec1 (g : GOp) (env : VT) (σ σ' : HT) : Bool :=
  match gonT env g.guard with
  | some true => match g.kind with
    | .load k => match loadH k (gargsT env g.args) σ', loadH k (gargsT env g.args) σ with
      | some a, some b => a.same b
      | _, _ => false
    | .new _ => match (g.dst.bind fun t => env.get t).bind DV.idOf with
      | some id => sameEO (σ'.get id) (σ.get id)
      | none => false
    | _ => false
  | some false => true
  | none => false
theorem erec1_ok {g : GOp} {env : VT} {σ σ' : HT} (h : erec1 g env σ σ' = true) : grec1 g (denE env) (den σ) (den σ') := by
  unfold erec1 at h
  rw [gonT_eq] at h
  unfold grec1
  split at h
  · rename_i hg
    rw [hg]
    split at h
    · rename_i k hk
      rw [hk]
      rw [gargsT_eq] at h
      split at h
      · rename_i a b ha hb
        simp only [loadH_ok ha, loadH_ok hb]
        rw [DV.same_eq h]
      · cases h
    · rename_i k hk
      rw [hk]
      split at h
      · rename_i id hid
        have hid' : (g.dst.bind fun t => (denE env)[t]?).bind DV.idOf = some id := by simp only [denE_get]; exact hid
        simp only [hid']
        have := sameEO_eq h
        simp only [den_get, this]
      · cases h
    · cases h
  · rename_i hg; rw [hg]; trivial
  · cases h
theorem erec_ok {env : VT} {σ σ' : HT} : ∀ {l : List GOp}, l.all (fun g => erec1 g env σ σ') = true → grec l (denE env) (den σ) (den σ')
  | [], _ => trivial
  | g :: l, h => by
    simp only [List.all_cons, Bool.and_eq_true] at h
    exact ⟨erec1_ok h.1, erec_ok h.2⟩
/-- How an evaluator carries out calls and rounds. -/
structure Ev where
  call : FuncId → List DV → HT → Option (DV × HT)
  round : Nat → List DV → HT → Option (DV × HT)
noncomputable def evNext (args : List DV) (σ : HT) : Option (DV × HT) := match args with
    | [.ptr it 0] => match σ.get it with
      | some (.obj (.it none _ _ _)) => some (.tuple [.bool false], σ)
      | some (.obj (.it (some id) since seen last)) => match σ.get id with
        | some (.obj (.mp es st)) => if (!seen.isEmpty && !es.isEmpty && st.1.all fun b => decide (b ≥ last)) = false then
            (match gcands es st.1 since seen with
            | [none] => some (.tuple [.bool false], σ)
            | [some (e, b)] => some (.tuple [.bool true, e.1, e.2], σ.set it (.obj (.it (some id) since (seen ++ [b]) st.2)))
            | _ => none)
          else none
        | _ => none
      | _ => none
    | _ => none
noncomputable def evEqn (neg : Bool) (args : List DV) (σ : HT) : Option (DV × HT) := match args with
    | [x, .nils] => match nilq x with
      | [b] => some (.bool (b != neg), σ)
      | _ => none
    | _ => none
noncomputable def evDo (E : Ev) (k : Kind) (args : List DV) (σ : HT) : Option (DV × HT) :=
  match k with
  | .pure k => match gpure k args with | some v => some (v, σ) | none => none
  | .load k => match loadH k args σ with | some v => some (v, σ) | none => none
  | .new k => match allocH k args with
    | some (obj, mk) => match σ.push obj with
      | some σ' => some (mk σ.n, σ')
      | none => none
    | none => none
  | .imp k => impH k args σ
  | .call f => E.call f args σ
  | .xcall _ => none
  | .callv => match args with | .func f first caps :: rest => E.call f (first ++ rest ++ caps) σ | .yield id :: rest => E.round id rest σ | _ => none
  | .mnext => evNext args σ
  | .eqn neg => evEqn neg args σ
  | .bad => none
noncomputable def evOp (E : Ev) (o : GOp) (env : VT) (σ : HT) : Option (DV × HT) :=
  match gonT env o.guard with
  | some true => evDo E o.kind (gargsT env o.args) σ
  | some false => some (.tuple [], σ)
  | none => none
noncomputable def evStep (E : Ev) (s : GStep) (next : VT → HT → Option (VT × HT)) (env : VT) (σ : HT) : Option (VT × HT) :=
  match evOp E s.op env σ with
  | some (v, σ') => if s.re.all (fun g => erec1 g (gputT env s.op.dst v) σ σ') then next (gputT env s.op.dst v) σ' else none
  | none => none
noncomputable def evSteps (E : Ev) (l : List GStep) : VT → HT → Option (VT × HT) :=
  List.rec (motive := fun _ => VT → HT → Option (VT × HT)) (fun env σ => some (env, σ)) (fun s _ ih => evStep E s ih) l
inductive EX where
  | normal | ret | exit (id : Nat)
def EX.to : EX → Exit
  | .normal => .normal
  | .ret => .ret
  | .exit id => .exit id
noncomputable def evAgain (r : Option (EX × VT × HT)) (k : VT → HT → Option (EX × VT × HT)) : Option (EX × VT × HT) :=
  match r with
  | some (.normal, env', σ') => k env' σ'
  | r => r
noncomputable def evLoop (body : VT → HT → Option (EX × VT × HT)) (n : Nat) : VT → HT → Option (EX × VT × HT) :=
  Nat.rec (motive := fun _ => VT → HT → Option (EX × VT × HT)) (fun _ _ => none) (fun _ ih env σ => evAgain (body env σ) ih) n
noncomputable def loopAt (σ : HT) (id : Nat) : Option LoopG := match σ.get id with
  | some (.obj (.loop lg)) => some lg
  | _ => none
def notBusy : LoopState → Bool
  | .busy => false
  | _ => true
def isReady : LoopState → Bool
  | .ready => true
  | _ => false
noncomputable def evBlock (id : Nat) (r : Option (EX × VT × HT)) : Option (EX × VT × HT) :=
  match r with
  | some (.exit i, env', σ') => if i = id then some (.normal, env', σ') else some (.exit i, env', σ')
  | r => r
noncomputable def evPick (d : DV) (a b : Option (EX × VT × HT)) : Option (EX × VT × HT) :=
  match d with
  | .bool true => a
  | .bool false => b
  | _ => none
noncomputable def evRegion (r : Option (VT × HT)) : Option (EX × VT × HT) :=
  match r with
  | some (env', σ') => some (.normal, env', σ')
  | none => none
noncomputable def evRange (E : Ev) (f : DV) (ps : List Tmp) (asg body : Code) (env : VT) (σ : HT) : Option (EX × VT × HT) :=
  match f with
    | .func bf first caps => match σ.push (.obj (.loop ⟨denE env, ps, asg, body, .ready, none⟩)) with
      | some σ0 => match E.call bf (first ++ [.yield σ.n] ++ caps) σ0 with
        | some (_, σ') => match loopAt σ' σ.n with
          | some lg => if notBusy lg.st then
              (match lg.pend with
              | none => some (.normal, env, σ'.set σ.n (.obj (.loop { lg with st := .exhausted })))
              | some .ret => some (.ret, env, σ'.set σ.n (.obj (.loop { lg with st := .exhausted })))
              | some (.exit i) => some (.exit i, env, σ'.set σ.n (.obj (.loop { lg with st := .exhausted })))
              | _ => none)
            else none
          | none => none
        | none => none
      | none => none
    | _ => none
noncomputable def evCode (E : Ev) (fuel : Nat) (c : GCode) : VT → HT → Option (EX × VT × HT) :=
  GCode.rec (motive := fun _ => VT → HT → Option (EX × VT × HT))
    (fun env σ => some (.normal, env, σ))
    (fun _ _ ia ib env σ => evAgain (ia env σ) ib)
    (fun st env σ => evRegion (evSteps E st env σ))
    (fun c _ _ ia ib env σ => evPick (gargT env c) (ia env σ) (ib env σ))
    (fun id _ ic env σ => evBlock id (ic env σ))
    (fun _ ic env σ => evLoop ic fuel env σ)
    (fun id env σ => some (.exit id, env, σ))
    (fun env σ => some (.ret, env, σ))
    (fun f ps asg body env σ => evRange E (gargT env f) ps asg body env σ)
    (fun _ _ => none) c
noncomputable def gres1T (env : VT) (σ : HT) : RK → Option DV
  | .tmp t => some (gargT env (.tmp t))
  | .cell t n agg => loadH (.load n agg) [gargT env (.tmp t)] σ
noncomputable def gresT (env : VT) (σ : HT) : List RK → Option (List DV)
  | [] => some []
  | r :: rs => match gres1T env σ r, gresT env σ rs with
    | some v, some vs => some (v :: vs)
    | _, _ => none
theorem gres1T_ok {env : VT} {σ : HT} {r : RK} {v : DV} (h : gres1T env σ r = some v) : gres1 (denE env) (den σ) r = some v := by
  cases r with
  | tmp t => simp only [gres1T, gargT_eq] at h; exact h
  | cell t n agg => simp only [gres1T, gargT_eq] at h; exact loadH_ok h
theorem gresT_ok {env : VT} {σ : HT} : ∀ {l : List RK} {vs : List DV}, gresT env σ l = some vs → gresL (denE env) (den σ) l = some vs
  | [], vs, h => h
  | r :: rs, vs, h => by
    simp only [gresT] at h
    split at h
    · rename_i v us h1 h2
      cases h
      simp only [gresL, gres1T_ok h1, gresT_ok h2]
    · cases h
noncomputable def evFun (E : Ev) (fuel : Nat) (gf : GFun) (args : List DV) (σ : HT) : Option (DV × HT) :=
  if args.length ≤ gf.ntmps ∧ gf.ntmps ≤ 1024 then
  match evCode E fuel gf.body (VT.new args gf.ntmps) σ with
  | some (.normal, env, σ') => (gresT env σ' gf.results).map fun vs => (gresV vs, σ')
  | some (.ret, env, σ') => (gresT env σ' gf.results).map fun vs => (gresV vs, σ')
  | _ => none
  else none
noncomputable def VT.ofL (l : Env) : VT := VT.fill l 0 ⟨l.length, .e⟩
theorem ofL_ok {l : Env} (h : l.length ≤ 1024) : denE (VT.ofL l) = l := by
  have := new_ok (args := l) (n := l.length) (Nat.le_refl _) h
  unfold VT.new at this
  unfold VT.ofL
  rw [this]; simp [genv0]
noncomputable def evRound (P : Program) (E : Ev) (fuel : Nat) (id : Nat) (args : List DV) (σ : HT) : Option (DV × HT) :=
  match loopAt σ id with
  | some lg => if isReady lg.st && decide (args.length = lg.ps.length) && decide ((putAll lg.env lg.ps args).length ≤ 1024) then
      (match comp P lg.asg, comp P lg.body with
      | some ga, some gb => match evCode E fuel ga (VT.ofL (putAll lg.env lg.ps args)) σ with
        | some (.normal, e1, σ1) => match loopAt σ1 id with
          | some lg1 => if isReady lg1.st then
              (match evCode E fuel gb e1 (σ1.set id (.obj (.loop { lg1 with st := .busy }))) with
              | some (x, _, σ2) => match loopAt σ2 id with
                | some lg2 => match x with
                  | .normal => some (.bool true, σ2.set id (.obj (.loop { lg2 with st := .ready, pend := none })))
                  | .ret => some (.bool false, σ2.set id (.obj (.loop { lg2 with st := .done, pend := some .ret })))
                  | .exit i => some (.bool false, σ2.set id (.obj (.loop { lg2 with st := .done, pend := some (.exit i) })))
                | none => none
              | none => none)
            else none
          | none => none
        | _ => none
      | _, _ => none)
    else none
  | none => none
noncomputable def evAllX (P : Program) (tab : FuncId → Option GFun) (X : FuncId → List DV → HT → Option (DV × HT)) : Nat → Ev
  | 0 => ⟨fun _ _ _ => none, fun _ _ _ => none⟩
  | n + 1 => ⟨fun f args σ => match X f args σ with
      | some r => some r
      | none => match tab f with
        | some gf => evFun (evAllX P tab X n) n gf args σ
        | none => none, evRound P (evAllX P tab X n) n⟩
theorem loopAt_some {σ : HT} {id : Nat} {lg : LoopG} (h : loopAt σ id = some lg) : (den σ)[id]? = some (.loop lg) := by
  unfold loopAt at h
  split at h
  · rename_i l hl; cases h; exact den_at hl
  · cases h
structure EvOk (P : Program) (E : Ev) : Prop where
  call : ∀ f args σ v σ', E.call f args σ = some (v, σ') → GCall P f args (den σ) fun a b => a = v ∧ b = den σ'
  round : ∀ id args σ v σ', E.round id args σ = some (v, σ') → GRound P id args (den σ) fun a b => a = v ∧ b = den σ'

theorem evAgain_cases {r : Option (EX × VT × HT)} {k : VT → HT → Option (EX × VT × HT)} {x : EX} {env : VT} {σ : HT} (h : evAgain r k = some (x, env, σ)) : (∃ e1 s1, r = some (.normal, e1, s1) ∧ k e1 s1 = some (x, env, σ)) ∨ (r = some (x, env, σ) ∧ x ≠ .normal) := by
  unfold evAgain at h
  split at h
  · rename_i e1 s1; exact .inl ⟨e1, s1, rfl, h⟩
  · rename_i hne
    refine .inr ⟨h, fun e => ?_⟩
    subst e; exact hne _ _ h
section
variable {P : Program} {E : Ev} (hE : EvOk P E)
include hE
theorem evDo_ok {k : Kind} {args : List DV} {σ σ' : HT} {v : DV} (h : evDo E k args σ = some (v, σ')) : gdo P k args (den σ) fun a b => a = v ∧ b = den σ' := by
  cases k <;> simp only [evDo] at h
  case call f => exact hE.call _ _ _ _ _ h
  case callv =>
    split at h
    · exact hE.call _ _ _ _ _ h
    · exact hE.round _ _ _ _ _ h
    · cases h
  case imp k => simp [gdo, impH_ok h]
  case pure k =>
    split at h
    · rename_i u hu; cases h; simp [gdo, hu]
    · cases h
  case load k =>
    split at h
    · rename_i u hu; cases h; simp [gdo, loadH_ok hu]
    · cases h
  case new k =>
    split at h
    · rename_i obj mk hu
      split at h
      · rename_i σ1 hp
        cases h
        obtain ⟨p1, p2⟩ := den_push hp
        simp [gdo, allocH_ok hu, p1, p2]
      · cases h
    · cases h
  case mnext =>
    unfold evNext at h
    split at h
    · rename_i it
      split at h
      · rename_i hit; cases h; simp [gdo, gnext, den_at hit, EO.den]
      · rename_i id since seen last hit
        split at h
        · rename_i es st hmp
          split at h
          · rename_i hno
            split at h
            · rename_i hc
              cases h
              simp only [gdo, gnext, den_at hit, den_at hmp, EO.den, hc]
              exact ⟨hno, fun c hc => by simp at hc; subst hc; simp⟩
            · rename_i e b hc
              cases h
              simp only [gdo, gnext, den_at hit, den_at hmp, EO.den, hc]
              exact ⟨hno, fun c hc => by simp at hc; subst hc; simp [den_set, EO.den]⟩
            · cases h
          · cases h
        · cases h
      · cases h
    · cases h
  case eqn n =>
    unfold evEqn at h
    split at h
    · rename_i x
      split at h
      · rename_i b hb
        cases h
        simp [gdo, geqn, hb]
      · cases h
    · cases h
  case xcall f => cases h
  case bad => cases h
theorem evOp_ok {g : GOp} {env : VT} {σ σ' : HT} {v : DV} (h : evOp E g env σ = some (v, σ')) : gop P g (denE env) (den σ) fun a b => a = v ∧ b = den σ' := by
  unfold evOp at h
  unfold gop
  rw [gonT_eq, gargsT_eq] at h
  split at h
  · rename_i hg; rw [hg]; exact evDo_ok hE h
  · rename_i hg; rw [hg]; cases h; exact ⟨rfl, rfl⟩
  · cases h
theorem evSteps_ok : ∀ {st : List GStep} {env env' : VT} {σ σ' : HT}, evSteps E st env σ = some (env', σ') → gsteps P st (denE env) (den σ) fun a b => a = denE env' ∧ b = den σ'
  | [], env, env', σ, σ', h => by
    have h' : some (env, σ) = some (env', σ') := h
    cases h'; exact ⟨rfl, rfl⟩
  | s :: rest, env, env', σ, σ', h => by
    have h' : evStep E s (evSteps E rest) env σ = some (env', σ') := h
    unfold evStep at h'
    split at h'
    · rename_i v σ1 h1
      split at h'
      · rename_i h2
        refine gop_mono (evOp_ok hE h1) fun a b hab => ?_
        obtain ⟨rfl, rfl⟩ := hab
        have h3 := evSteps_ok h'
        have h4 := erec_ok h2
        rw [gputT_eq] at h3 h4
        exact ⟨h4, h3⟩
      · cases h'
    · cases h'
theorem evCode_ok {fuel : Nat} : ∀ {c : GCode} {env env' : VT} {σ σ' : HT} {x : EX}, evCode E fuel c env σ = some (x, env', σ') → gexec P c (denE env) (den σ) fun e a b => e = x.to ∧ a = denE env' ∧ b = den σ'
  | .skip, env, env', σ, σ', x, h => by
    have h' : some (EX.normal, env, σ) = some (x, env', σ') := h
    cases h'; exact ⟨rfl, rfl, rfl⟩
  | .seq a b, env, env', σ, σ', x, h => by
    have h' : evAgain (evCode E fuel a env σ) (evCode E fuel b) = some (x, env', σ') := h
    simp only [gexec]
    rcases evAgain_cases h' with ⟨e1, s1, h1, h2⟩ | ⟨h1, h2⟩
    · refine gexec_mono (evCode_ok h1) fun e y z hyz => ?_
      obtain ⟨rfl, rfl, rfl⟩ := hyz
      exact evCode_ok h2
    · refine gexec_mono (evCode_ok h1) fun e y z hyz => ?_
      obtain ⟨rfl, rfl, rfl⟩ := hyz
      cases x with
      | normal => exact absurd rfl h2
      | ret => exact ⟨rfl, rfl, rfl⟩
      | exit id => exact ⟨rfl, rfl, rfl⟩
  | .region st, env, env', σ, σ', x, h => by
    have h' : evRegion (evSteps E st env σ) = some (x, env', σ') := h
    unfold evRegion at h'
    split at h'
    · rename_i e1 s1 h1
      cases h'
      exact gsteps_mono (evSteps_ok hE h1) fun a b hab => ⟨rfl, hab.1, hab.2⟩
    · cases h'
  | .cond c a b, env, env', σ, σ', x, h => by
    have h' : evPick (gargT env c) (evCode E fuel a env σ) (evCode E fuel b env σ) = some (x, env', σ') := h
    unfold evPick at h'
    rw [gargT_eq] at h'
    simp only [gexec]
    split at h'
    · rename_i hg; first | (rw [hg]; exact evCode_ok h') | exact evCode_ok h'
    · rename_i hg; first | (rw [hg]; exact evCode_ok h') | exact evCode_ok h'
    · cases h'
  | .block id c, env, env', σ, σ', x, h => by
    have h' : evBlock id (evCode E fuel c env σ) = some (x, env', σ') := h
    unfold evBlock at h'
    simp only [gexec]
    split at h'
    · rename_i i e1 s1 h1
      refine gexec_mono (evCode_ok h1) fun e y z hyz => ?_
      obtain ⟨rfl, rfl, rfl⟩ := hyz
      simp only [EX.to]
      split at h'
      · rename_i hi; cases h'; rw [if_pos hi]; exact ⟨rfl, rfl, rfl⟩
      · rename_i hi; cases h'; rw [if_neg hi]; exact ⟨rfl, rfl, rfl⟩
    · rename_i hne
      refine gexec_mono (evCode_ok h') fun e y z hyz => ?_
      obtain ⟨rfl, rfl, rfl⟩ := hyz
      cases x with
      | normal => exact ⟨rfl, rfl, rfl⟩
      | ret => exact ⟨rfl, rfl, rfl⟩
      | exit i => exact absurd h' (hne _ _ _)
  | .loop c, env, env', σ, σ', x, h => by
    have h' : evLoop (evCode E fuel c) fuel env σ = some (x, env', σ') := h
    simp only [gexec]
    refine ⟨fun n e τ => ∃ env σ, e = denE env ∧ τ = den σ ∧ evLoop (evCode E fuel c) n env σ = some (x, env', σ'), ⟨fuel, denE env, ⟨rfl, fun t => .inl rfl⟩, env, σ, rfl, rfl, h'⟩, fun n env1 σ1 hn => ?_⟩
    obtain ⟨env1, σ1, rfl, rfl, hn⟩ := hn
    cases n with
    | zero => cases hn
    | succ n =>
      have hn' : evAgain (evCode E fuel c env1 σ1) (evLoop (evCode E fuel c) n) = some (x, env', σ') := hn
      rcases evAgain_cases hn' with ⟨e1, s1, h1, h2⟩ | ⟨h1, h2⟩
      · refine gexec_mono (evCode_ok h1) fun e y z hyz => ?_
        obtain ⟨rfl, rfl, rfl⟩ := hyz
        exact ⟨n, _, Nat.lt_succ_self n, ⟨rfl, fun t => .inl rfl⟩, e1, s1, rfl, rfl, h2⟩
      · refine gexec_mono (evCode_ok h1) fun e y z hyz => ?_
        obtain ⟨rfl, rfl, rfl⟩ := hyz
        cases x with
        | normal => exact absurd rfl h2
        | ret => exact ⟨rfl, rfl, rfl⟩
        | exit id => exact ⟨rfl, rfl, rfl⟩
  | .exit id, env, env', σ, σ', x, h => by
    have h' : some (EX.exit id, env, σ) = some (x, env', σ') := h
    cases h'; exact ⟨rfl, rfl, rfl⟩
  | .ret, env, env', σ, σ', x, h => by
    have h' : some (EX.ret, env, σ) = some (x, env', σ') := h
    cases h'; exact ⟨rfl, rfl, rfl⟩
  | .bad, env, env', σ, σ', x, h => by cases h
  | .rangeF f ps asg body, env, env', σ, σ', x, h => by
    have h' : evRange E (gargT env f) ps asg body env σ = some (x, env', σ') := h
    unfold evRange at h'
    rw [gargT_eq] at h'
    simp only [gexec]
    split at h'
    · rename_i bf first caps hf
      split at h'
      · rename_i σ0 hp
        obtain ⟨p1, p2⟩ := den_push hp
        split at h'
        · rename_i v σ1 h1
          split at h'
          · rename_i lg hlg
            split at h'
            · rename_i hnb
              have hb : lg.st ≠ .busy := by intro e; rw [e] at hnb; cases hnb
              simp only [hf]
              have hcl := hE.call _ _ _ _ _ h1
              rw [p1, p2] at hcl
              rw [p2] at hlg
              refine hcl.mono fun a b hab => ?_
              obtain ⟨_, rfl⟩ := hab
              refine ⟨lg, loopAt_some hlg, hb, ?_⟩
              rw [p2] at h'
              split at h'
              · rename_i hpd; cases h'; rw [hpd]; exact ⟨rfl, rfl, by rw [den_set]; rfl⟩
              · rename_i hpd; cases h'; rw [hpd]; exact ⟨rfl, rfl, by rw [den_set]; rfl⟩
              · rename_i i hpd; cases h'; rw [hpd]; exact ⟨rfl, rfl, by rw [den_set]; rfl⟩
              · cases h'
            · cases h'
          · cases h'
        · cases h'
      · cases h'
    · cases h'
end
/-- A table of ghost programs that are those of a program. -/
def TabOk (P : Program) (tab : FuncId → Option GFun) : Prop := ∀ f gf, tab f = some gf → ∃ fn, P.funcs[f]? = some fn ∧ (fn.name == "runtime.NumGoroutine") = false ∧ compF P fn = some gf
/-- **Calls and rounds that the evaluator carries out.** -/
theorem evAllX_ok {P : Program} (hm : P.follows .mixedOrders = true) {tab : FuncId → Option GFun} (ht : TabOk P tab) {X : FuncId → List DV → HT → Option (DV × HT)} (hX : ∀ f args σ v σ', X f args σ = some (v, σ') → GCall P f args (den σ) fun a b => a = v ∧ b = den σ') : ∀ n, EvOk P (evAllX P tab X n)
  | 0 => ⟨fun f args σ v σ' h => by simp [evAllX] at h, fun id args σ v σ' h => by simp [evAllX] at h⟩
  | n + 1 => by
    have ih := evAllX_ok hm ht hX n
    refine ⟨fun f args σ v σ' h => ?_, fun id args σ v σ' h => ?_⟩
    · simp only [evAllX] at h
      split at h
      · rename_i r hr
        cases h
        exact hX _ _ _ _ _ hr
      split at h
      · rename_i gf hg
        obtain ⟨fn, h1, h2, h3⟩ := ht f gf hg
        refine gcall_of hm h1 h2 h3 ?_
        unfold evFun at h
        split at h
        rotate_left
        · cases h
        rename_i hsz
        rw [← new_ok hsz.1 hsz.2]
        split at h
        · rename_i env1 σ1 he
          refine gexec_mono (evCode_ok ih he) fun e a b hab => ?_
          obtain ⟨rfl, rfl, rfl⟩ := hab
          obtain ⟨vs, hvs, hh⟩ := Option.map_eq_some_iff.1 h
          cases hh
          simp [EX.to, gret, gresT_ok hvs]
        · rename_i env1 σ1 he
          refine gexec_mono (evCode_ok ih he) fun e a b hab => ?_
          obtain ⟨rfl, rfl, rfl⟩ := hab
          obtain ⟨vs, hvs, hh⟩ := Option.map_eq_some_iff.1 h
          cases hh
          simp [EX.to, gret, gresT_ok hvs]
        · cases h
      · cases h
    · simp only [evAllX, evRound] at h
      split at h
      · rename_i lg hlg
        split at h
        · rename_i hc
          simp only [Bool.and_eq_true, decide_eq_true_eq] at hc
          have hr : lg.st = .ready := by cases hs : lg.st <;> simp_all [isReady]
          split at h
          · rename_i ga gb ha hb
            split at h
            · rename_i e1 σ1 he1
              split at h
              · rename_i lg1 hlg1
                split at h
                · rename_i hr1
                  have hr1' : lg1.st = .ready := by cases hs : lg1.st <;> simp_all [isReady]
                  split at h
                  · rename_i x e2 σ2 he2
                    split at h
                    · rename_i lg2 hlg2
                      refine ground_of hm (loopAt_some hlg) hr ha hb hc.1.2 ?_
                      have hex1 := evCode_ok ih he1
                      rw [ofL_ok hc.2] at hex1
                      refine gexec_mono hex1 fun e a b hab => ?_
                      obtain ⟨rfl, rfl, rfl⟩ := hab
                      refine ⟨rfl, lg1, loopAt_some hlg1, hr1', ?_⟩
                      have hex := evCode_ok ih he2
                      rw [den_set] at hex
                      refine gexec_mono hex fun e a b hab => ?_
                      obtain ⟨rfl, rfl, rfl⟩ := hab
                      refine ⟨lg2, loopAt_some hlg2, ?_⟩
                      cases x <;> (simp only at h; cases h; exact ⟨rfl, by rw [den_set]; rfl⟩)
                    · cases h
                  · cases h
                · cases h
              · cases h
            · cases h
          · cases h
        · cases h
      · cases h
end Go.Gh
namespace Go.Gh
open Go.RowKit
set_option linter.unusedVariables false
/-- The table of a program, reckoned. -/
def tabOf (P : Program) (f : FuncId) : Option GFun :=
  match P.funcs[f]? with
  | some fn => if fn.name == "runtime.NumGoroutine" then none else compF P fn
  | none => none
theorem tabOf_ok (P : Program) : TabOk P (tabOf P) := by
  intro f gf h
  unfold tabOf at h
  split at h
  · rename_i fn hf
    split at h
    · cases h
    · rename_i hn; exact ⟨fn, hf, by simpa using hn, h⟩
  · cases h
end Go.Gh
namespace Go.Gh
open Go.RowKit
set_option linter.unusedVariables false
end Go.Gh
namespace Go.Gh
open Go.RowKit
set_option linter.unusedVariables false
set_option linter.unusedSimpArgs false
/-- The loops over iterators in a text, from the top: what they assign, and their bodies. -/
def rngs : Code → List (Code × Code)
  | .seq a b => rngs a ++ rngs b
  | .cond _ a b => rngs a ++ rngs b
  | .block _ c => rngs c
  | .loop c => rngs c
  | .rangeFunc _ _ asg body => [(asg, body)]
  | _ => []
def rngAs (c : Code) (k : Nat) : Code := match (rngs c)[k]? with | some p => p.1 | none => .skip
def rngBs (c : Code) (k : Nat) : Code := match (rngs c)[k]? with | some p => p.2 | none => .skip
def rngA (fn : Func) (k : Nat) : Code := match fn.body with | some b => rngAs b k | none => .skip
def rngB (fn : Func) (k : Nat) : Code := match fn.body with | some b => rngBs b k | none => .skip
/-- The record of a loop over an iterator. -/
def lgR (env : Env) (ps : List Tmp) (a b : Code) : LoopG := ⟨env, ps, a, b, .ready, none⟩
def roundK (id : Nat) [Post : Bx (DV → GS → Prop)] (x : Exit) (env : Env) (σ : GS) : Prop := ground id Post.val x env σ
def asgK (P : Program) (id : Nat) [b : Bx GCode] [Post : Bx (DV → GS → Prop)] (x : Exit) (env : Env) (σ : GS) : Prop :=
  x = .normal ∧ ∃ lg1, σ[id]? = some (.loop lg1) ∧ lg1.st = .ready ∧ @exB P b env (σ.set id (.loop { lg1 with st := .busy })) ⟨@roundK id Post⟩
/-- A round, when the loop's record is known. -/
theorem round_of {P : Program} (hm : P.follows .mixedOrders = true) {σ : GS} {id : Nat} {env : Env} {ps : List Tmp} {a b : Code} {args : List DV} {Post : DV → GS → Prop} {ga gb : GCode} (hs : σ[id]? = some (.loop (lgR env ps a b))) (ha : comp P a = some ga) (hb : comp P b = some gb) (hlen : args.length = ps.length)
    (h : @exB P ⟨ga⟩ (putAll env ps args) σ ⟨@asgK P id ⟨gb⟩ ⟨Post⟩⟩) : GRound P id args σ Post :=
  ground_of hm hs rfl ha hb hlen (gexec_mono h fun x e s ⟨h1, lg1, h2, h3, h4⟩ => ⟨h1, lg1, h2, h3, h4⟩)
theorem roundK_normal {id : Nat} {Post : Bx (DV → GS → Prop)} {env e0 : Env} {ps : List Tmp} {a b : Code} {σ : GS} (h : σ[id]? = some (.loop ⟨e0, ps, a, b, .busy, none⟩)) (k : Post.val (.bool true) (σ.set id (.loop (lgR e0 ps a b)))) : @roundK id Post .normal env σ := ⟨_, h, k⟩
end Go.Gh
namespace Go.Gh
open Go.RowKit
set_option linter.unusedVariables false
set_option linter.unusedSimpArgs false
set_option maxRecDepth 100000
@[simp] theorem gres_c3 (env : Env) (σ : GS) (t u x : Tmp) (n : Nat) (b : Bool) : gresL env σ [.cell t n b, .tmp u, .tmp x] = (gload (.load n b) [env[t]?.getD (.tuple [])] σ).map fun v => [v, env[u]?.getD (.tuple []), env[x]?.getD (.tuple [])] := by
  simp only [gresL, gres1, garg]
  cases gload (.load n b) [env[t]?.getD (.tuple [])] σ <;> rfl
@[simp] theorem fill_nil (z : List DV) : gfill [] z [] = some z := rfl
@[simp] theorem fill_fsl (z0 z1 : DV) (sz : Nat) (es : List (List DV)) : gfill [(0, 1)] [z0, z1] [.fsl sz es] = some [.fsl sz es, z1] := by simp [gfill, DV.cells, over]
theorem frz_none (σ : GS) : frz (fun _ => false) σ = σ := by
  apply List.ext_getElem?
  intro i
  rw [frz_off rfl]
theorem GCall.reads {P : Program} {f : FuncId} {args args' : List DV} {σ : GS} {Post : DV → GS → Prop} (ha : Rds σ (RO σ) args args') (h : GCall P f args' σ Post) : GCall P f args σ Post := by
  refine GCall.frz (fun _ => false) (args' := args') ?_ ?_
  · rw [frz_none]; exact ha
  · rw [frz_none]; exact h
theorem Own.rdF {α : Type} {n sz : Nat} {enc : α → List DV} {σ : GS} {s : DV} {xs : List α} (h : Own n sz enc σ s xs) (hc : ∀ x, (enc x).length = sz) : Rd (Go.Gh.frz (fun i => s.idOf == some i) σ) (RO (Go.Gh.frz (fun i => s.idOf == some i) σ)) s (.fsl sz (xs.map enc)) := by
  rcases h with ⟨rfl, rfl⟩ | ⟨id, cap, rest, h1, rfl, h3, h4⟩
  · exact .nils sz
  · have hrow := frz_row (S := fun i => (DV.slice id 0 xs.length sz cap).idOf == some i) h3 (by simp)
    have hl : (xs.flatMap enc ++ rest).length = xs.length * sz + rest.length := by rw [List.length_append, flatMap_len hc]
    have := Rd.slice (σ := Go.Gh.frz (fun i => (DV.slice id 0 xs.length sz cap).idOf == some i) σ) (ok := RO _) (id := id) (off := 0) (sz := sz) (cap := cap) (es := xs.map enc) (fun ro cs h => by rw [hrow] at h; cases h; rfl) hrow (by rw [hl, List.length_map]; omega) (fun e he => by obtain ⟨x, _, rfl⟩ := List.mem_map.1 he; exact hc x) (by
      have hf := flatMap_len hc xs
      simp only [List.drop_zero, List.length_map, flatMap_flatten]
      rw [← hf, List.take_left]
      exact Rds.refl _)
    simpa using this
theorem Own.idOf_has {α : Type} {n sz : Nat} {enc : α → List DV} {σ : GS} {s : DV} {xs : List α} (h : Own n sz enc σ s xs) {i : Nat} (hi : ¬ s.has i) : (s.idOf == some i) = false := by
  rcases h with ⟨rfl, rfl⟩ | ⟨id, cap, rest, h1, rfl, h3, h4⟩
  · rfl
  · simp
    rintro rfl
    exact hi ⟨_, _, _, _, rfl⟩
@[simp] theorem fill_pair (z0 z1 : DV) (k j : IntKind) (a b : Int) : gfill [(0, 1), (1, 1)] [z0, z1] [.int k a, .int j b] = some [.int k a, .int j b] := by simp [gfill, DV.cells, over]
@[simp] theorem ga_b0 (sz : Nat) (z : List DV) : galloc (.bslice sz z 0 []) [] = some (.row false (gzeros z 0), fun id => .slice id 0 0 sz (some 0)) := by simp [galloc, gfill]
theorem fill_flat2 {z0 z1 a b : DV} (ha : a.flat = true) (hb : b.flat = true) : gfill [(0, 1), (1, 1)] [z0, z1] [a, b] = some [a, b] := by simp [gfill, cells_of_flat ha, cells_of_flat hb, over]
@[simp] theorem fill_agg2 (z0 z1 z2 a b : DV) : gfill [(0, 2)] [z0, z1, z2] [.agg [a, b]] = some [a, b, z2] := by simp [gfill, DV.cells, over]
@[simp] theorem ga_box_int (k : IntKind) (x : Int) : galloc .box [.int k x] = some (.row false [.int k x], fun id => .ptr id 0) := rfl
@[simp] theorem ga_box_ptr (i j : Nat) : galloc .box [.ptr i j] = some (.row false [.ptr i j], fun id => .ptr id 0) := rfl
@[simp] theorem ga_box_fsl (sz : Nat) (es : List (List DV)) : galloc .box [.fsl sz es] = some (.row false [.fsl sz es], fun id => .ptr id 0) := rfl
@[simp] theorem ga_b2_int {z : DV} (k : IntKind) (x y : Int) : galloc (.bslice 1 [z] 2 [(0, 1), (1, 1)]) [.int k x, .int k y] = some (.row false [.int k x, .int k y], fun id => .slice id 0 2 1 (some 2)) := rfl
@[simp] theorem ga_b3_int {z : DV} (k : IntKind) (x y w : Int) : galloc (.bslice 1 [z] 3 [(0, 1), (1, 1), (2, 1)]) [.int k x, .int k y, .int k w] = some (.row false [.int k x, .int k y, .int k w], fun id => .slice id 0 3 1 (some 3)) := rfl
@[simp] theorem ptr_nil (id k : Nat) : gbin .eql .ptr (.ptr id k) .nilp = some (.bool false) := rfl
@[simp] theorem nil_nil : gbin .eql .ptr .nilp .nilp = some (.bool true) := rfl
@[simp] theorem gres_c2 (env : Env) (σ : GS) (t u : Tmp) (n : Nat) (b : Bool) : gresL env σ [.cell t n b, .tmp u] = (gload (.load n b) [env[t]?.getD (.tuple [])] σ).map fun v => [v, env[u]?.getD (.tuple [])] := by
  simp only [gresL, gres1, garg]
  cases gload (.load n b) [env[t]?.getD (.tuple [])] σ <;> rfl
@[simp] theorem ga_mmap : galloc .mmap [] = some (.mp [] ([], 0), fun id => .map id) := rfl
@[simp] theorem gres_c1 (env : Env) (σ : GS) (t : Tmp) (n : Nat) (b : Bool) : gresL env σ [.cell t n b] = (gload (.load n b) [env[t]?.getD (.tuple [])] σ).map fun v => [v] := by
  simp only [gresL, gres1, garg]
  cases gload (.load n b) [env[t]?.getD (.tuple [])] σ <;> rfl
@[simp] theorem gp_cap_nils : gpure .cap [.nils] = some (.int .i64 0) := rfl
@[simp] theorem gres_c4 (env : Env) (σ : GS) (t u x z : Tmp) (n : Nat) (b : Bool) : gresL env σ [.cell t n b, .tmp u, .tmp x, .tmp z] = (gload (.load n b) [env[t]?.getD (.tuple [])] σ).map fun v => [v, env[u]?.getD (.tuple []), env[x]?.getD (.tuple []), env[z]?.getD (.tuple [])] := by
  simp only [gresL, gres1, garg]
  cases gload (.load n b) [env[t]?.getD (.tuple [])] σ <;> rfl
@[simp] theorem nth_zero {α : Type} (x : α) (l : List α) : nth (x :: l) 0 = some x := rfl
theorem set_tail {α : Type} (l τ : List α) (k : Nat) (x : α) : (l ++ τ).set (l.length + k) x = l ++ τ.set k x := by rw [List.set_append_right _ _ (by omega)]; simp
theorem rangeB_intro {P : Program} {bf : FuncId} {first caps : List DV} {env : Env} {σ : GS} {c : Bx (List Tmp × Code × Code)} {k : Bx (Exit → Env → GS → Prop)} (h : GCall P bf (first ++ [.yield σ.length] ++ caps) (σ ++ [.loop (lgR env c.val.1 c.val.2.1 c.val.2.2)]) fun _ σ' => grange σ.length env k.val σ') : @rangeB P (.func bf first caps) env σ c k := h
theorem grange_normal {id : Nat} {env e0 : Env} {ps : List Tmp} {a b : Code} {Q : Exit → Env → GS → Prop} {σ : GS} (h : σ[id]? = some (.loop (lgR e0 ps a b))) (k : Q .normal env (σ.set id (.loop ⟨e0, ps, a, b, .exhausted, none⟩))) : grange id env Q σ := ⟨_, h, by simp [lgR], k⟩
@[simp] theorem asgK_normal (P : Program) (id : Nat) (b : Bx GCode) (Post : Bx (DV → GS → Prop)) (env : Env) (σ : GS) : @asgK P id b Post .normal env σ = ∃ lg1, σ[id]? = some (.loop lg1) ∧ lg1.st = .ready ∧ @exB P b env (σ.set id (.loop { lg1 with st := .busy })) ⟨@roundK id Post⟩ := by simp [asgK]
@[simp] theorem gres_cc (env : Env) (σ : GS) (t u : Tmp) (n m : Nat) (b c : Bool) : gresL env σ [.cell t n b, .cell u m c] = (gload (.load n b) [env[t]?.getD (.tuple [])] σ).bind fun v => (gload (.load m c) [env[u]?.getD (.tuple [])] σ).map fun w => [v, w] := by
  simp only [gresL, gres1, garg]
  cases gload (.load n b) [env[t]?.getD (.tuple [])] σ <;> cases gload (.load m c) [env[u]?.getD (.tuple [])] σ <;> rfl
end Go.Gh
namespace Go.Gh
open Go.RowKit
set_option linter.unusedVariables false
set_option linter.unusedSimpArgs false
/-- The numbers in blocks, one behind the other. -/
def flatB (p : List Blk) : List Int := p.flatMap (·.2)
@[simp] theorem flatB_nil : flatB [] = [] := rfl
@[simp] theorem flatB_cons (b : Blk) (p : List Blk) : flatB (b :: p) = b.2 ++ flatB p := rfl
theorem flatB_append (p q : List Blk) : flatB (p ++ q) = flatB p ++ flatB q := by simp [flatB]
theorem flatB_len (p : List Blk) : (flatB p).length = (p.map fun b => b.2.length).sum := by
  induction p with
  | nil => rfl
  | cons b p ih => simp [ih]
theorem lensB_flat (p : List Blk) : lensB p = p.length + (flatB p).length := by rw [flatB_len]; rfl
theorem lensB_cons (b : Blk) (p : List Blk) : lensB (b :: p) = 1 + b.2.length + lensB p := by simp [lensB]; omega
theorem lensB_append (p q : List Blk) : lensB (p ++ q) = lensB p + lensB q := by simp [lensB]; omega
theorem lensB_mem {b : Blk} {p : List Blk} (h : b ∈ p) : b.2.length ≤ lensB p := by
  have := mem_sum (f := fun b : Blk => b.2.length) h; unfold lensB; omega
/-- Variables, none of which occurs twice, nor among those before. -/
def singleS (seen : List Int) : List Int → Bool
  | [] => true
  | x :: l => isVar x && !seen.contains x && singleS (seen ++ [x]) l
/-- Blocks that are not empty, neighbours of different quantifiers. -/
def altB (prev : Option Bool) : List Blk → Bool
  | [] => true
  | b :: p => !b.2.isEmpty && decide (prev ≠ some b.1) && altB (some b.1) p
def mayB (p : List Blk) : Bool := altB none p && (decide ((flatB p).length ≤ 1024) && singleS [] (flatB p))
/-- Where a number stands first. -/
def findO (k : Nat) : List Blk → Int → Option (Nat × Bool)
  | [], v => none
  | b :: p, v => if b.2.contains v then some (k, b.1) else findO (k + 1) p v
def findT : Option (Nat × Bool) → DV
  | some (k, e) => .tuple [.int .i64 k, .bool e, .bool true]
  | none => .tuple [.int .i64 0, .bool false, .bool false]
/-- The numbers in blocks, with the index of the block. -/
def prs (k : Nat) : List Blk → List (Nat × Int)
  | [] => []
  | b :: p => b.2.map (fun v => (k, v)) ++ prs (k + 1) p
theorem prs_len (p : List Blk) : ∀ k, (prs k p).length = (flatB p).length := by
  induction p with
  | nil => intro k; rfl
  | cons b p ih => intro k; simp [prs, ih]
theorem prs_snd (p : List Blk) : ∀ k, (prs k p).map (·.2) = flatB p := by
  induction p with
  | nil => intro k; rfl
  | cons b p ih => intro k; simp [prs, ih, Function.comp_def]
theorem prs_append (p q : List Blk) : ∀ k, prs k (p ++ q) = prs k p ++ prs (k + p.length) q := by
  induction p with
  | nil => intro k; simp [prs]
  | cons b p ih => intro k; simp [prs, ih, Nat.add_assoc, Nat.add_comm 1]
theorem prs_at {p : List Blk} {i j : Nat} {b : Blk} {v : Int} (h1 : p[i]? = some b) (h2 : b.2[j]? = some v) : (prs 0 p)[(flatB (p.take i)).length + j]? = some (i, v) := by
  have hi := get_dom h1
  have hj := get_dom h2
  have e : p = p.take i ++ b :: p.drop (i + 1) := by rw [← drop_get h1, List.take_append_drop]
  have hl : (p.take i).length = i := by simp; omega
  rw [show prs 0 p = prs 0 (p.take i) ++ (b.2.map (fun v => (i, v)) ++ prs (i + 1) (p.drop (i + 1))) by
    conv => lhs; rw [e, prs_append]
    rw [hl, prs, Nat.zero_add]]
  rw [List.getElem?_append_right (by rw [prs_len]; omega), prs_len, Nat.add_sub_cancel_left, List.getElem?_append_left (by simpa using hj), List.getElem?_map, h2]
  rfl
theorem flatB_take {p : List Blk} {i : Nat} {b : Blk} (h : p[i]? = some b) : flatB (p.take (i + 1)) = flatB (p.take i) ++ b.2 := by rw [take_get h, flatB_append]; simp
theorem prs_mem {p : List Blk} : ∀ {k : Nat} {x : Nat × Int}, x ∈ prs k p → ∃ b, k ≤ x.1 ∧ p[x.1 - k]? = some b ∧ x.2 ∈ b.2 := by
  induction p with
  | nil => intro k x h; cases h
  | cons b p ih =>
    intro k x h
    rcases List.mem_append.1 h with h | h
    · obtain ⟨v, hv, rfl⟩ := List.mem_map.1 h
      exact ⟨b, Nat.le_refl _, by simp, hv⟩
    · obtain ⟨c, h1, h2, h3⟩ := ih h
      refine ⟨c, by omega, ?_, h3⟩
      rw [show x.1 - k = (x.1 - (k + 1)) + 1 by omega]
      simpa using h2
/-- A place: the block and its quantifier. -/
def placeV (x : Nat × Bool) : DV := .agg [.int .i64 x.1, .bool x.2]
/-- A map that keeps what is first. -/
def plStep (f : Nat → DV) (E : List (Int × DV)) (x : Nat × Int) : List (Int × DV) := if (kget x.2 E).isSome then E else E ++ [(x.2, f x.1)]
def plE (f : Nat → DV) (l : List (Nat × Int)) : List (Int × DV) := l.foldl (plStep f) []
theorem kget_snoc (k v : Int) (u : DV) : ∀ E : List (Int × DV), kget k (E ++ [(v, u)]) = match kget k E with | some w => some w | none => if k = v then some u else none
  | [] => by simp [kget]
  | (a, w) :: E => by
    have ih := kget_snoc k v u E
    simp only [List.cons_append, kget]
    by_cases h : k = a
    · simp [h]
    · simp only [if_neg h]; exact ih
theorem plE_get (f : Nat → DV) (v : Int) (l : List (Nat × Int)) : ∀ E, kget v (l.foldl (plStep f) E) = match kget v E with | some w => some w | none => (l.find? fun x => x.2 == v).map fun x => f x.1 := by
  induction l with
  | nil => intro E; cases h : kget v E <;> simp [h]
  | cons x l ih =>
    intro E
    rw [List.foldl_cons, ih]
    unfold plStep
    by_cases h : (kget x.2 E).isSome = true
    · rw [if_pos h]
      cases h1 : kget v E with
      | some w => rfl
      | none =>
        have : (x.2 == v) = false := by
          cases hb : x.2 == v with
          | false => rfl
          | true => rw [eq_of_beq hb, h1] at h; cases h
        simp [List.find?_cons, this]
    · rw [if_neg h, kget_snoc]
      cases h1 : kget v E with
      | some w => rfl
      | none =>
        by_cases h2 : v = x.2
        · subst h2; simp
        · have : (x.2 == v) = false := by simpa using fun e => h2 e.symm
          simp [h2, List.find?_cons, this]
theorem findO_prs (f : Nat → DV) (v : Int) : ∀ (p : List Blk) (k : Nat), (∀ (j : Nat) b, p[j]? = some b → f (k + j) = placeV (k + j, b.1)) → ((prs k p).find? fun x => x.2 == v).map (fun x => f x.1) = (findO k p v).map placeV
  | [], k, _ => rfl
  | b :: p, k, h => by
    rw [prs, List.find?_append, findO]
    by_cases hc : b.2.contains v = true
    · rw [if_pos hc]
      have : (b.2.map fun v => (k, v)).find? (fun x => x.2 == v) = some (k, v) := by
        rw [List.find?_map]
        have hm : v ∈ b.2 := by simpa using hc
        cases hf : b.2.find? ((fun x : Nat × Int => x.2 == v) ∘ fun v => (k, v)) with
        | none => have := List.find?_eq_none.1 hf v hm; simp at this
        | some u => have := List.find?_some hf; simp at this; simp [this]
      rw [this]
      have := h 0 b rfl
      simpa using this
    · rw [if_neg hc]
      have : (b.2.map fun v => (k, v)).find? (fun x => x.2 == v) = none := by
        rw [List.find?_eq_none]
        rintro ⟨a, u⟩ hx
        obtain ⟨w, hw, e⟩ := List.mem_map.1 hx
        cases e
        simp only [beq_iff_eq]
        rintro rfl
        exact hc (by simpa using hw)
      rw [this, Option.none_or]
      refine findO_prs f v p (k + 1) fun j c hj => ?_
      have := h (j + 1) c (by simpa using hj)
      rw [show k + 1 + j = k + (j + 1) by omega]; exact this
/-- What the map of places says. -/
def PlaceE (p : List Blk) (E : List (Int × DV)) : Prop := ∀ v, kget v E = (findO 0 p v).map placeV
theorem idxF_cases {α : Type} (p : α → Bool) : ∀ (l : List α) (k : Nat), (idxF p k l = -1 ∧ ∀ x ∈ l, p x = false) ∨ ∃ i x, idxF p k l = ((k + i : Nat) : Int) ∧ l[i]? = some x ∧ p x = true ∧ ∀ j y, j < i → l[j]? = some y → p y = false
  | [], k => .inl ⟨rfl, fun x hx => by cases hx⟩
  | x :: l, k => by
    by_cases h : p x = true
    · exact .inr ⟨0, x, by simp [idxF, h], rfl, h, fun j y hj => absurd hj (Nat.not_lt_zero _)⟩
    · rcases idxF_cases p l (k + 1) with ⟨h1, h2⟩ | ⟨i, y, h1, h2, h3, h4⟩
      · refine .inl ⟨by simp [idxF, h, h1], fun z hz => ?_⟩
        rcases List.mem_cons.1 hz with rfl | hz
        · simpa using h
        · exact h2 z hz
      · refine .inr ⟨i + 1, y, ?_, by simpa using h2, h3, fun j z hj hz => ?_⟩
        · simp only [idxF, if_neg h, h1]; congr 1; omega
        · cases j with
          | zero => simp at hz; subst hz; simpa using h
          | succ j => exact h4 j z (by omega) (by simpa using hz)
/-- What abs makes of a literal: -2^63 stays. -/
def absW (x : Int) : Int := max x (IntKind.i64.wrap (-x))
end Go.Gh
namespace Go.Gh
open Go.RowKit
set_option linter.unusedVariables false
set_option linter.unusedSimpArgs false
theorem absW_eq {x : Int} (h : -9223372036854775808 ≤ x ∧ x < 9223372036854775808) : (if x < 0 then IntKind.i64.wrap (-x) else x) = absW x := by
  unfold absW
  by_cases h0 : x = -9223372036854775808
  · subst h0; decide
  · have : IntKind.i64.wrap (-x) = -x := wrap_small (by omega) (by omega)
    rw [this]; split <;> omega
theorem absW_small {x : Int} (h : -9223372036854775808 < x ∧ x < 9223372036854775808) : absW x = if x < 0 then -x else x := by
  unfold absW
  have : IntKind.i64.wrap (-x) = -x := wrap_small (by omega) (by omega)
  rw [this]; split <;> omega
theorem findO_mem {p : List Blk} {v : Int} : ∀ {k : Nat} {x : Nat × Bool}, findO k p v = some x → ∃ b, k ≤ x.1 ∧ p[x.1 - k]? = some b ∧ x.2 = b.1 ∧ v ∈ b.2 := by
  induction p with
  | nil => intro k x h; cases h
  | cons b p ih =>
    intro k x h
    rw [findO] at h
    by_cases hc : b.2.contains v = true
    · rw [if_pos hc] at h; cases h
      exact ⟨b, Nat.le_refl _, by simp, rfl, by simpa using hc⟩
    · rw [if_neg hc] at h
      obtain ⟨c, h1, h2, h3, h4⟩ := ih h
      refine ⟨c, by omega, ?_, h3, h4⟩
      rw [show x.1 - k = (x.1 - (k + 1)) + 1 by omega]
      simpa using h2
theorem singleS_var : ∀ {l seen : List Int}, singleS seen l = true → ∀ x ∈ l, isVar x = true
  | [], _, _, x, h => by cases h
  | y :: l, seen, h, x, hx => by
    rw [singleS, Bool.and_eq_true, Bool.and_eq_true] at h
    rcases List.mem_cons.1 hx with rfl | hx
    · exact h.1.1
    · exact singleS_var h.2 x hx
theorem mayB_parts {p : List Blk} (h : mayB p = true) : altB none p = true ∧ (flatB p).length ≤ 1024 ∧ singleS [] (flatB p) = true := by
  unfold mayB at h
  simp only [Bool.and_eq_true, decide_eq_true_eq] at h
  exact ⟨h.1, h.2.1, h.2.2⟩
/-- Literals that ascend by their variables, none of them 0. -/
def litOk (x : Int) : Bool := decide (x ≠ 0) && decide (-65536 ≤ x) && decide (x ≤ 65536)
def nrmG (g : Int → Bool) (last : Int) : List Int → Bool
  | [] => true
  | x :: l => litOk x && decide (last < absW x) && g (absW x) && nrmG g (absW x) l
def nrmS (last : Int) (l : List Int) : Bool := nrmG (fun _ => true) last l
theorem nrmG_eq (g : Int → Bool) : ∀ (l : List Int) (last : Int), nrmG g last l = (nrmS last l && l.all fun x => g (absW x))
  | [], last => rfl
  | x :: l, last => by
    unfold nrmS
    rw [nrmG, nrmG, nrmG_eq g l, List.all_cons]
    unfold nrmS
    cases litOk x <;> cases decide (last < absW x) <;> cases g (absW x) <;> cases nrmG (fun _ => true) (absW x) l <;> simp
def sumL (l : List (List Int)) : Nat := (l.map List.length).sum
def cnfB (l : List (List Int)) : Bool := decide (l.length ≤ 20000) && l.all (nrmS 0) && decide (sumL l ≤ 200000)
def cnfG (g : Int → Bool) (l : List (List Int)) : Bool := decide (l.length ≤ 20000) && l.all (nrmG g 0) && decide (sumL l ≤ 200000)
theorem cnfG_eq (g : Int → Bool) (l : List (List Int)) : cnfG g l = (cnfB l && l.all fun c => c.all fun x => g (absW x)) := by
  have h : l.all (nrmG g 0) = (l.all (nrmS 0) && l.all fun c => c.all fun x => g (absW x)) := by
    induction l with
    | nil => rfl
    | cons c l ih =>
      rw [List.all_cons, List.all_cons, List.all_cons, ih, nrmG_eq]
      cases nrmS 0 c <;> cases (c.all fun x => g (absW x)) <;> cases l.all (nrmS 0) <;> simp
  unfold cnfG cnfB
  rw [h]
  cases decide (l.length ≤ 20000) <;> cases l.all (nrmS 0) <;> cases (l.all fun c => c.all fun x => g (absW x)) <;> simp
theorem litOk_abs {x : Int} (h : litOk x = true) : isVar (absW x) = true ∧ 0 < absW x := by
  simp only [litOk, Bool.and_eq_true, decide_eq_true_eq] at h
  have := absW_small (x := x) ⟨by omega, by omega⟩
  constructor
  · simp only [isVar, Bool.and_eq_true, decide_eq_true_eq]; rw [this]; split <;> omega
  · rw [this]; split <;> omega
theorem sumL_lens (l : List (List Int)) : lensC l = l.length + sumL l := rfl
theorem sumL_push {l : List (List Int)} {i : Nat} {c : List Int} (h : l[i]? = some c) : sumL (l.take (i + 1)) = sumL (l.take i) + c.length := by
  unfold sumL; rw [take_get h, List.map_append, List.sum_append]; simp
theorem sumL_take (l : List (List Int)) (k : Nat) : sumL (l.take k) ≤ sumL l := by
  have : sumL l = sumL (l.take k) + sumL (l.drop k) := by unfold sumL; rw [← List.sum_append, ← List.map_append, List.take_append_drop]
  omega
theorem lensC_mem {c : List Int} {l : List (List Int)} (h : c ∈ l) : c.length ≤ lensC l := by
  have := mem_sum (f := fun c : List Int => c.length) h; unfold lensC; omega
end Go.Gh
namespace Go.Gh
open Go.RowKit Go.Sort
set_option linter.unusedVariables false
set_option linter.unusedSimpArgs false

/-- What the library's sort of ints does. -/
def SortC (P : Program) (f : FuncId) : Prop :=
  (∀ (blk off cap : Nat) (zs : List Int) (w : World), Holds (Value.int .i64) w blk off zs.toArray → blk < w.heap.size → zs.length < 4611686018427387904 →
    Calls P f #[.slice (some ⟨blk, off, none⟩) zs.length cap] w fun e w' => e = .returned (.tuple #[]) ∧ ∃ n os, w' = grow (putRow (Value.int .i64) (Sort.ahead w n) blk off (zs.mergeSort fun x y => decide (x ≤ y)).toArray) os) ∧
  (∀ (p : Option Addr) (cap : Nat) (w : World), Calls P f #[.slice p 0 cap] w fun e w' => e = .returned (.tuple #[]) ∧ w' = w)

theorem grow_list {N : Nat} {w0 : World} {ρ : Ren} {σ : GS} : ∀ (l : List Obj) (w : World), Rel N w0 ρ σ w → Rel N w0 ρ σ (grow w l.toArray) ∧ ∀ n, Ext n ρ w ρ (grow w l.toArray)
  | [], w, h => by
    rw [show grow w ([] : List Obj).toArray = w from grow_empty w]; exact ⟨h, fun n => Ext.refl _ _ _⟩
  | o :: l, w, h => by
    have e : grow w (o :: l).toArray = grow (w.alloc o) l.toArray := by rw [alloc_eq_grow, grow_grow]; simp
    rw [e]
    obtain ⟨a, b⟩ := grow_list l (w.alloc o) (h.junk o)
    exact ⟨a, fun n => (Ext.junk (n := n) o).trans (b n) (Nat.le_refl _)⟩

theorem putRow_set {w : World} {blk off : Nat} {d : Array Int} {cur : Array Value} {t : TypeId} (h : w.heap[blk]? = some (.cells cur t (0, 0))) :
    putRow (Value.int .i64) w blk off d = w.setRow blk (putCells (Value.int .i64) off d cur) := by
  unfold putRow mapBlock World.setRow
  congr 1
  apply Array.ext_getElem?
  intro i
  simp only [Array.getElem?_modify]
  by_cases hi : blk = i
  · subst hi; simp [h, onCells]
  · simp [hi]

/-- The sort, of a list that lies in a row of the call's own. -/
theorem sort_gcall {P : Program} {f : FuncId} (hS : SortC P f) (hex : ∃ fn, P.funcs[f]? = some fn ∧ (fn.name == "runtime.NumGoroutine") = false ∧ fn.body.isSome = true) {σ : GS} {id off : Nat} {cap : Option Nat} {pre post : List DV} {zs : List Int}
    (hid : σ[id]? = some (.row false (pre ++ zs.map (DV.int .i64) ++ post))) (hoff : pre.length = off) (hn : zs.length < 4611686018427387904) :
    GCall P f [.slice id off zs.length 1 cap] σ fun v σ' => v = .tuple [] ∧ σ' = σ.set id (.row false (pre ++ (zs.mergeSort fun x y => decide (x ≤ y)).map (DV.int .i64) ++ post)) := by
  refine ⟨hex, fun N w0 ρ w rargs hrel hv => ?_⟩
  obtain ⟨rv, rfl, hv1⟩ := hv.one_inv
  obtain ⟨L, a, c, hL, rfl, hlc, hca, hcap, hext⟩ := hv1.slice_inv
  have hlt := hrel.dom id L hL
  have htu : VR ρ (.tuple []) (.tuple #[]) := by simp only [VR]; exact ⟨[], VRs.nil, rfl⟩
  by_cases h0 : zs.length = 0
  · have := List.length_eq_zero_iff.1 h0
    subst this
    refine (hS.2 a c w).mono ?_
    rintro e w' ⟨rfl, rfl⟩
    refine ⟨_, _, ρ, σ, rfl, hrel, Ext.refl _ _ _, Nat.le_refl _, htu, rfl, ?_⟩
    apply List.ext_getElem?
    intro i
    by_cases hi : i = id
    · subst hi; rw [List.getElem?_set_self hlt, hid]; simp
    · rw [List.getElem?_set_ne (fun e => hi e.symm)]
  · have hc0 : c ≠ 0 := by omega
    cases hca hc0
    obtain ⟨hc, _, hk⟩ := hrel.row id L false _ hL hid
    obtain ⟨hN, hle, cells, e, hcell, hsz⟩ := hk rfl
    have hzl : (zs.mergeSort fun x y => decide (x ≤ y)).length = zs.length := List.length_mergeSort _
    have hH : Holds (Value.int .i64) w L.blk (L.off + off) zs.toArray := by
      intro j hj
      have hj' : j < zs.length := by simpa using hj
      obtain ⟨rv, q1, q2⟩ := hc (off + j) (.int .i64 zs[j]) (by
        rw [List.append_assoc, List.getElem?_append_right (by omega), show off + j - pre.length = j by omega, List.getElem?_append_left (by simpa using hj')]
        simp [hj'])
      have := q2.int_inv
      subst this
      refine ⟨?_, ?_⟩
      · rw [Nat.add_assoc, q1]; simp [hj']
      · simp [World.frozen?, hcell]
    refine (hS.1 L.blk (L.off + off) c zs w hH (hrel.lt id L hL) hn).mono ?_
    generalize (zs.mergeSort fun x y => decide (x ≤ y)) = ys at hzl ⊢
    rintro e' w' ⟨rfl, n, os, rfl⟩
    have hcell' : (Sort.ahead w n).heap[L.blk]? = some (.cells cells e (0, 0)) := hcell
    rw [putRow_set hcell']
    have r1 : Rel N w0 ρ σ (Sort.ahead w n) := hrel.same ⟨rfl, rfl, rfl, rfl⟩
    have hlen : (pre ++ zs.map (DV.int .i64) ++ post).length = off + zs.length + post.length := by simp; omega
    have r2 := r1.write (cs' := pre ++ ys.map (DV.int .i64) ++ post) hL hid hcell' (cur' := putCells (Value.int .i64) (L.off + off) ys.toArray cells) (by simp [putCells]) (by
      intro j v hv
      have hjl : j < off + zs.length + post.length := by
        have := get_dom hv
        simp at this; omega
      obtain ⟨v0, hv0⟩ : ∃ v0, (pre ++ zs.map (DV.int .i64) ++ post)[j]? = some v0 := ⟨_, List.getElem?_eq_getElem (by omega)⟩
      obtain ⟨rv, q1, q2⟩ := hc j v0 hv0
      replace q1 : cells[L.off + j]? = some rv := by simpa [World.cell?, hcell] using q1
      by_cases h1 : j < off
      · refine ⟨rv, ?_, ?_⟩
        · simp only [putCells, Array.getElem?_mapIdx, q1, Option.map_some]
          rw [if_neg (by omega)]
        · rw [List.append_assoc, List.getElem?_append_left (by omega)] at hv hv0
          rw [hv] at hv0; cases hv0; exact q2
      · by_cases h2 : j < off + zs.length
        · rw [List.append_assoc, List.getElem?_append_right (by omega), List.getElem?_append_left (by simp; omega), hoff] at hv
          have hj2 : j - off < ys.length := by omega
          simp [hj2] at hv
          subst hv
          refine ⟨.int .i64 ys[j - off], ?_, by simp only [VR]⟩
          simp only [putCells, Array.getElem?_mapIdx, q1, Option.map_some]
          rw [if_pos (by simp; omega), show L.off + j - (L.off + off) = j - off by omega]
          simp [hj2]
        · refine ⟨rv, ?_, ?_⟩
          · simp only [putCells, Array.getElem?_mapIdx, q1, Option.map_some]
            rw [if_neg (by simp; omega)]
          · rw [List.getElem?_append_right (by simp; omega)] at hv hv0
            simp only [List.length_append, List.length_map, hzl] at hv hv0
            rw [hv] at hv0; cases hv0; exact q2) (by simp; simp at hle; omega)
    have e2 : Ext σ.length ρ w ρ ((Sort.ahead w n).setRow L.blk (putCells (Value.int .i64) (L.off + off) ys.toArray cells)) :=
      Ext.same (w1 := Sort.ahead w n) ⟨rfl, rfl, rfl, rfl⟩ (Ext.row r1 hL hid ⟨by simp [World.setRow], fun k hk => setRow_other _ _ _ _ hk⟩)
    obtain ⟨g1, g2⟩ := grow_list os.toList _ r2
    refine ⟨_, _, ρ, _, rfl, by simpa using g1, e2.trans (by simpa using g2 _) (Nat.le_refl _), by simp, htu, rfl, rfl⟩

/-- The sort of a slice of one's own. -/
theorem Own.sort {P : Program} {f : FuncId} (hS : SortC P f) (hex : ∃ fn, P.funcs[f]? = some fn ∧ (fn.name == "runtime.NumGoroutine") = false ∧ fn.body.isSome = true) {n : Nat} {σ : GS} {s : DV} {zs : List Int}
    (h : Own n 1 (fun x => [DV.int .i64 x]) σ s zs) (hn : zs.length < 4611686018427387904) (hn0 : n ≤ σ.length) :
    GCall P f [s] σ fun v σ' => v = .tuple [] ∧ Own n 1 (fun x => [DV.int .i64 x]) σ' s (zs.mergeSort fun x y => decide (x ≤ y)) ∧ Fr n σ σ' ∧ σ'.length = σ.length ∧ ∀ i, ¬ s.has i → σ'[i]? = σ[i]? := by
  have hzl : (zs.mergeSort fun x y => decide (x ≤ y)).length = zs.length := List.length_mergeSort _
  rcases h with ⟨rfl, rfl⟩ | ⟨id, cap, rest, h1, rfl, h3, h4⟩
  · refine ⟨hex, fun N w0 ρ w rargs hrel hv => ?_⟩
    obtain ⟨rv, rfl, hv1⟩ := hv.one_inv
    rw [hv1.nils_inv]
    refine (hS.2 none 0 w).mono ?_
    rintro e w' ⟨rfl, rfl⟩
    exact ⟨_, _, ρ, σ, rfl, hrel, Ext.refl _ _ _, Nat.le_refl _, by simp only [VR]; exact ⟨[], VRs.nil, rfl⟩, rfl, .inl ⟨rfl, by simp⟩, .refl hn0, rfl, fun _ _ => rfl⟩
  · have hfm : ∀ l : List Int, l.flatMap (fun x => [DV.int .i64 x]) = l.map (DV.int .i64) := fun l => by induction l with
      | nil => rfl
      | cons x l ih => rw [List.flatMap_cons, ih]; rfl
    rw [hfm] at h3
    refine (sort_gcall hS hex (pre := []) (post := rest) (zs := zs) (by simpa using h3) rfl hn).mono ?_
    rintro v σ' ⟨rfl, rfl⟩
    have hid := get_dom h3
    refine ⟨rfl, .inr ⟨id, cap, rest, h1, by rw [hzl], ?_, fun c hc => by rw [hzl]; exact h4 c hc⟩, (Fr.refl hn0).set h1 _, by simp, fun i hi => ?_⟩
    · rw [hfm, List.getElem?_set_self hid]; simp
    · exact List.getElem?_set_ne (fun e => hi ⟨_, _, _, _, by rw [e]⟩)
end Go.Gh
namespace Go.Gh
open Go.RowKit
set_option linter.unusedVariables false
set_option linter.unusedSimpArgs false
theorem flatMap_set {α : Type} {enc : α → List DV} {sz : Nat} (hc : ∀ x, (enc x).length = sz) {j : Nat} (hj : j < sz) {v : DV} : ∀ {xs : List α} {i : Nat} {x y : α}, xs[i]? = some x → enc y = (enc x).set j v → (xs.set i y).flatMap enc = (xs.flatMap enc).set (i * sz + j) v
  | a :: xs, 0, x, y, h, hy => by
    simp at h; subst h
    simp only [List.set_cons_zero, List.flatMap_cons, hy, Nat.zero_mul, Nat.zero_add]
    rw [List.set_append_left _ _ (by rw [hc]; exact hj)]
  | a :: xs, i + 1, x, y, h, hy => by
    have ih := flatMap_set hc hj (xs := xs) (i := i) (x := x) (y := y) (by simpa using h) hy
    simp only [List.set_cons_succ, List.flatMap_cons, ih]
    rw [List.set_append_right _ _ (by rw [hc, Nat.add_mul]; omega), hc, Nat.add_mul]
    congr 2; omega
section
variable {α : Type} {n sz : Nat} {enc : α → List DV} {σ : GS} {s : DV} {xs : List α}
/-- One cell of an element is written. -/
theorem Own.setc (h : Own n sz enc σ s xs) (hc : ∀ x, (enc x).length = sz) {i : Nat} {x : α} (hi : xs[i]? = some x) (y : α) {j : Nat} (hj : j < sz) {v : DV} (hv : v.flat = true) (hy : enc y = (enc x).set j v) {k : IntKind} :
    ∃ id σ', s.has id ∧ gpure (.iaddr sz) [s, .int k (i : Int)] = some (.ptr id (i * sz)) ∧ gimp (.store 1) [.ptr id (i * sz + j), v] σ = some (.tuple [], σ') ∧ Own n sz enc σ' s (xs.set i y) ∧ σ'.length = σ.length ∧ (∀ t, ¬ s.has t → σ'[t]? = σ[t]?) := by
  have hlt := get_dom hi
  rcases h with ⟨_, rfl⟩ | ⟨id, cap, rest, h1, rfl, h3, h4⟩
  · simp at hlt
  · have hid := get_dom h3
    have hl := flatMap_len hc xs
    have h5 : (i + 1) * sz ≤ xs.length * sz := Nat.mul_le_mul_right _ hlt
    rw [Nat.add_mul] at h5
    refine ⟨id, σ.set id (.row false ((xs.set i y).flatMap enc ++ rest)), ⟨_, _, _, _, rfl⟩, ?_, ?_, .inr ⟨id, cap, rest, h1, by simp, by simp [hid], by simpa using h4⟩, by simp, fun t ht => List.getElem?_set_ne fun e => ht ⟨_, _, _, _, by rw [e]⟩⟩
    · simp only [gpure]
      rw [if_pos (by omega)]; simp
    · simp only [gimp, h3, cells_of_flat hv]
      rw [if_pos ⟨rfl, by rw [List.length_append, hl]; show i * sz + j + 1 ≤ _; omega, by simp [hv]⟩, over_one (by rw [List.length_append, hl]; omega), List.set_append_left _ _ (by rw [hl]; omega), flatMap_set hc hj hi hy]
end
abbrev eraw (r : Bool × DV) : List DV := [.bool r.1, r.2]
/-- A list of blocks of one's own, each with a list of its own. -/
structure JnR (n : Nat) (σ : GS) (s : DV) (raws : List (Bool × DV)) (bs : List Blk) : Prop where
  own : Own n 2 eraw σ s raws
  len : raws.length = bs.length
  at_ : ∀ (i : Nat) r b, raws[i]? = some r → bs[i]? = some b → r.1 = b.1 ∧ Own n 1 eint σ r.2 b.2 ∧ ∀ k, r.2.has k → ¬ s.has k
  off : ∀ (i j : Nat) r r', i ≠ j → raws[i]? = some r → raws[j]? = some r' → ∀ k, r.2.has k → ¬ r'.2.has k
def Jn (n : Nat) (σ : GS) (s : DV) (bs : List Blk) : Prop := ∃ raws, JnR n σ s raws bs
section
variable {n : Nat} {σ : GS} {s : DV} {raws : List (Bool × DV)} {bs : List Blk}
theorem Jn.nil : Jn n σ .nils [] := ⟨[], .nil, rfl, fun i r b h => by simp at h, fun i j r r' _ h => by simp at h⟩
theorem Jn.glen (h : Jn n σ s bs) : gpure .len [s] = some (.int .i64 bs.length) := by obtain ⟨raws, h⟩ := h; rw [h.own.len, h.len]
/-- Nothing of it has changed. -/
theorem JnR.fr {σ' : GS} (h : JnR n σ s raws bs) (hf : Fr σ.length σ σ') : JnR n σ' s raws bs :=
  ⟨h.own.fr hf, h.len, fun i r b h1 h2 => by obtain ⟨a, b, c⟩ := h.at_ i r b h1 h2; exact ⟨a, b.fr hf, c⟩, h.off⟩
theorem Jn.fr {σ' : GS} (h : Jn n σ s bs) (hf : Fr σ.length σ σ') : Jn n σ' s bs := let ⟨raws, h⟩ := h; ⟨raws, h.fr hf⟩
theorem JnR.get (h : JnR n σ s raws bs) {i : Nat} {b : Blk} (hb : bs[i]? = some b) : ∃ r, raws[i]? = some r ∧ r.1 = b.1 ∧ Own n 1 eint σ r.2 b.2 ∧ ∀ k, r.2.has k → ¬ s.has k := by
  have hi := get_dom hb
  obtain ⟨r, hr⟩ := get_lt (xs := raws) (i := i) (by rw [h.len]; exact hi)
  exact ⟨r, hr, h.at_ i r b hr hb⟩
/-- A block more, with a list that is new. -/
theorem JnR.push (h : JnR n σ s raws bs) {e : Bool} {t : DV} {vs : List Int} (ht : Own n 1 eint σ t vs) (hs : ∀ k, t.has k → ¬ s.has k) (hn : ∀ (i : Nat) (r : Bool × DV), raws[i]? = some r → ∀ k, r.2.has k → ¬ t.has k) (hl : n ≤ σ.length) (hgo : (bs.length + 1) * 32 ≤ 140737488355328) :
    ∃ s' σ', gimp (.append 2 32) [s, .slice σ.length 0 1 2 (some 1)] (σ ++ [.row false [.bool e, t]]) = some (s', σ') ∧ JnR n σ' s' (raws ++ [(e, t)]) (bs ++ [(e, vs)]) ∧ Fr n σ σ' ∧ σ.length ≤ σ'.length := by
  obtain ⟨s', σ', q1, q2, q3, q4, q5, q6⟩ := h.own.push (by_ := 32) (e, t) (fun _ => rfl) (by simp [ht.flat]) hl (by rw [h.len]; exact hgo) (by decide)
  have hkeep : ∀ {t' : DV} {ws : List Int}, Own n 1 eint σ t' ws → (∀ k, t'.has k → ¬ s.has k) → Own n 1 eint σ' t' ws ∧ ∀ k, t'.has k → ¬ s'.has k := fun {t' ws} ho hd =>
    ⟨ho.fit fun i hi => q5 i (ho.has_lt hi) (hd i hi), fun k hk hk' => by
      rcases q6 k hk' with h1 | h1
      · exact hd k hk h1
      · have := ho.has_lt hk; omega⟩
  refine ⟨s', σ', q1, ⟨q2, by simp [h.len], fun i r b h1 h2 => ?_, fun i j r r' hij h1 h2 k hk => ?_⟩, q3, q4⟩
  · by_cases hi : i < raws.length
    · rw [List.getElem?_append_left hi] at h1
      rw [List.getElem?_append_left (by rw [← h.len]; exact hi)] at h2
      obtain ⟨a, b, c⟩ := h.at_ i r b h1 h2
      exact ⟨a, hkeep b c⟩
    · rw [List.getElem?_append_right (by omega)] at h1
      rw [List.getElem?_append_right (by rw [← h.len]; omega), ← h.len] at h2
      obtain ⟨m, hm⟩ : ∃ m, i - raws.length = m := ⟨_, rfl⟩
      rw [hm] at h1 h2
      cases m with
      | zero => simp at h1 h2; subst h1; subst h2; exact ⟨rfl, hkeep ht hs⟩
      | succ m => simp at h1
  · by_cases hi : i < raws.length
    · rw [List.getElem?_append_left hi] at h1
      by_cases hj : j < raws.length
      · rw [List.getElem?_append_left hj] at h2
        exact h.off i j r r' hij h1 h2 k hk
      · rw [List.getElem?_append_right (by omega)] at h2
        obtain ⟨m, hm⟩ : ∃ m, j - raws.length = m := ⟨_, rfl⟩
        rw [hm] at h2
        cases m with
        | zero => simp at h2; subst h2; exact hn i r h1 k hk
        | succ m => simp at h2
    · rw [List.getElem?_append_right (by omega)] at h1
      obtain ⟨m, hm⟩ : ∃ m, i - raws.length = m := ⟨_, rfl⟩
      rw [hm] at h1
      cases m with
      | succ m => simp at h1
      | zero =>
        simp at h1; subst h1
        by_cases hj : j < raws.length
        · rw [List.getElem?_append_left hj] at h2
          intro hk'
          exact hn j r' h2 k hk' hk
        · rw [List.getElem?_append_right (by omega)] at h2
          have := get_dom h2
          simp at this; omega
/-- The list of one block is exchanged; that list alone may have changed before. -/
theorem JnR.put {σ0 : GS} (h : JnR n σ0 s raws bs) {i : Nat} {r : Bool × DV} {b : Blk} (hr : raws[i]? = some r) (hb : bs[i]? = some b) {t : DV} {vs : List Int} (ht : Own n 1 eint σ t vs) (hs : ∀ k, t.has k → ¬ s.has k) (hn : ∀ (j : Nat) (r' : Bool × DV), j ≠ i → raws[j]? = some r' → ∀ k, r'.2.has k → ¬ t.has k)
    (f0 : ∀ k, s.has k → σ[k]? = σ0[k]?) (f1 : ∀ (j : Nat) (r' : Bool × DV), j ≠ i → raws[j]? = some r' → ∀ k, r'.2.has k → σ[k]? = σ0[k]?) :
    ∃ id σ', gpure (.iaddr 2) [s, .int .i64 (i : Int)] = some (.ptr id (i * 2)) ∧ gimp (.store 1) [.ptr id (i * 2 + 1), t] σ = some (.tuple [], σ') ∧ JnR n σ' s (raws.set i (r.1, t)) (bs.set i (b.1, vs)) ∧ (n ≤ σ.length → Fr n σ σ') ∧ σ'.length = σ.length := by
  have hown : Own n 2 eraw σ s raws := h.own.fit f0
  obtain ⟨id, σ', g0, g1, g2, g3, g4, g5⟩ := hown.setc (fun _ => rfl) hr (r.1, t) (j := 1) (by omega) ht.flat (by simp) (k := .i64)
  have hid := hown.has_ge g0
  have hi := get_dom hr
  have hi2 := get_dom hb
  have hkeep : ∀ {t' : DV} {ws : List Int}, Own n 1 eint σ t' ws → (∀ k, t'.has k → ¬ s.has k) → Own n 1 eint σ' t' ws := fun {t' ws} ho hd => ho.fit fun k hk => g5 k (hd k hk)
  refine ⟨id, σ', g1, g2, ⟨g3, by simp [h.len], fun j q c h1 h2 => ?_, fun j l q q' hjl h1 h2 k hk => ?_⟩, fun hl => ⟨by rw [g4]; exact hl, fun j hj => g5 j fun hh => by have := hown.has_ge hh; omega⟩, g4⟩
  · by_cases e : i = j
    · subst e
      rw [List.getElem?_set_self hi] at h1
      rw [List.getElem?_set_self hi2] at h2
      cases h1; cases h2
      exact ⟨(h.at_ i r b hr hb).1, hkeep ht hs, hs⟩
    · rw [List.getElem?_set_ne e] at h1 h2
      obtain ⟨a1, a2, a3⟩ := h.at_ j q c h1 h2
      exact ⟨a1, hkeep (a2.fit fun k hk => f1 j q (fun e' => e e'.symm) h1 k hk) a3, a3⟩
  · by_cases e : i = j
    · subst e
      rw [List.getElem?_set_self hi] at h1
      rw [List.getElem?_set_ne hjl] at h2
      cases h1
      intro hk'
      exact hn l q' (fun e => hjl e.symm) h2 k hk' hk
    · rw [List.getElem?_set_ne e] at h1
      by_cases e2 : i = l
      · subst e2
        rw [List.getElem?_set_self hi] at h2
        cases h2
        exact hn j q (fun e' => e e'.symm) h1 k hk
      · rw [List.getElem?_set_ne e2] at h2
        exact h.off j l q q' hjl h1 h2 k hk
/-- The list of one block grows. -/
theorem JnR.grow {σ0 : GS} (h : JnR n σ0 s raws bs) {i : Nat} {r : Bool × DV} {b : Blk} (hr : raws[i]? = some r) (hb : bs[i]? = some b) {t : DV} {vs : List Int} (ht : Own n 1 eint σ t vs)
    (q5 : ∀ k, k < σ0.length → ¬ r.2.has k → σ[k]? = σ0[k]?) (q6 : ∀ k, t.has k → r.2.has k ∨ σ0.length ≤ k) :
    ∃ id σ', gpure (.iaddr 2) [s, .int .i64 (i : Int)] = some (.ptr id (i * 2)) ∧ gimp (.store 1) [.ptr id (i * 2 + 1), t] σ = some (.tuple [], σ') ∧ JnR n σ' s (raws.set i (r.1, t)) (bs.set i (b.1, vs)) ∧ (n ≤ σ.length → Fr n σ σ') ∧ σ'.length = σ.length := by
  obtain ⟨h1, h2, h3⟩ := h.at_ i r b hr hb
  have hlow : ∀ (j : Nat) (r' : Bool × DV), raws[j]? = some r' → ∀ k, r'.2.has k → k < σ0.length := fun j r' hr' k hk => by
    obtain ⟨c, hc⟩ := get_lt (xs := bs) (i := j) (by rw [← h.len]; exact get_dom hr')
    exact (h.at_ j r' c hr' hc).2.1.has_lt hk
  refine h.put hr hb ht (fun k hk hk' => ?_) (fun j r' hj hr' k hk hk' => ?_) (fun k hk => q5 k (h.own.has_lt hk) fun hh => h3 k hh hk) fun j r' hj hr' k hk => q5 k (hlow j r' hr' k hk) fun hh => h.off j i r' r hj hr' hr k hk hh
  · rcases q6 k hk with hh | hh
    · exact h3 k hh hk'
    · have := h.own.has_lt hk'; omega
  · rcases q6 k hk' with hh | hh
    · exact h.off j i r' r hj hr' hr k hk hh
    · have := hlow j r' hr' k hk; omega
theorem JnR.rds {ok : Nat → Prop} (hok : ∀ i, n ≤ i → ok i) : ∀ {raws : List (Bool × DV)} {bs : List Blk}, raws.length = bs.length → (∀ (i : Nat) r b, raws[i]? = some r → bs[i]? = some b → r.1 = b.1 ∧ Own n 1 eint σ r.2 b.2) → Rds σ ok (raws.flatMap eraw) (bs.flatMap eblk)
  | [], [], _, _ => .nil
  | r :: raws, b :: bs, hl, h => by
    obtain ⟨h1, h2⟩ := h 0 r b rfl rfl
    have ih := JnR.rds hok (raws := raws) (bs := bs) (by simpa using hl) fun i r b h3 h4 => h (i + 1) r b (by simpa using h3) (by simpa using h4)
    rw [List.flatMap_cons, List.flatMap_cons]
    show Rds σ ok (.bool r.1 :: r.2 :: raws.flatMap eraw) (.bool b.1 :: fints b.2 :: bs.flatMap eblk)
    rw [h1]
    exact .cons (.same _) (.cons (h2.rd (fun _ => rfl) hok) ih)
  | [], _ :: _, hl, _ => by simp at hl
  | _ :: _, [], hl, _ => by simp at hl
/-- How it reads when nobody writes it any more. -/
theorem Jn.rd {ok : Nat → Prop} (h : Jn n σ s bs) (hok : ∀ i, n ≤ i → ok i) : Rd σ ok s (fblks bs) := by
  obtain ⟨raws, h⟩ := h
  have hrds := JnR.rds hok h.len fun i r b h1 h2 => by obtain ⟨a, b, _⟩ := h.at_ i r b h1 h2; exact ⟨a, b⟩
  rcases h.own with ⟨rfl, hnil⟩ | ⟨id, cap, rest, h1, rfl, h3, h4⟩
  · have : bs = [] := List.length_eq_zero_iff.1 (by rw [← h.len, hnil]; rfl)
    subst this
    exact .nils 2
  · have hl : (raws.flatMap eraw ++ rest).length = raws.length * 2 + rest.length := by rw [List.length_append, flatMap_len (sz := 2) (fun _ => rfl)]
    have hf := flatMap_len (enc := eraw) (sz := 2) (fun _ => rfl) raws
    have := Rd.slice (σ := σ) (ok := ok) (id := id) (off := 0) (sz := 2) (cap := cap) (es := bs.map eblk) (hok id h1) h3 (by rw [hl, List.length_map, h.len]; omega) (fun e he => by obtain ⟨x, _, rfl⟩ := List.mem_map.1 he; rfl) (by
      simp only [List.drop_zero, List.length_map, flatMap_flatten]
      rw [← h.len, ← hf, List.take_left]
      exact hrds)
    rw [h.len]
    simpa using this
end
/-- Blocks without empty ones, neighbours of one quantifier put together. -/
def joinStep (out : List Blk) (b : Blk) : List Blk := if b.2 = [] then out else match out[out.length - 1]? with
  | some c => if c.1 = b.1 then out.set (out.length - 1) (c.1, c.2 ++ b.2) else out ++ [b]
  | none => out ++ [b]
def joinB (p : List Blk) : List Blk := p.foldl joinStep []
theorem joinB_push {p : List Blk} {i : Nat} {b : Blk} (h : p[i]? = some b) : joinB (p.take (i + 1)) = joinStep (joinB (p.take i)) b := by
  unfold joinB; rw [take_get h, List.foldl_append]; rfl
theorem set_split {α : Type} {l : List α} {k : Nat} {c d : α} (h : l[k]? = some c) : l.set k d = l.take k ++ d :: l.drop (k + 1) ∧ l = l.take k ++ c :: l.drop (k + 1) := by
  have hk := get_dom h
  refine ⟨?_, by rw [← drop_get h, List.take_append_drop]⟩
  rw [List.set_eq_take_append_cons_drop, if_pos hk]
theorem lensB_set {l : List Blk} {k : Nat} {c : Blk} {ys : List Int} (h : l[k]? = some c) : lensB (l.set k (c.1, c.2 ++ ys)) = lensB l + ys.length := by
  obtain ⟨e1, e2⟩ := set_split (d := (c.1, c.2 ++ ys)) h
  rw [e1]
  conv => rhs; rw [e2]
  rw [lensB_append, lensB_append, lensB_cons, lensB_cons]
  simp; omega
theorem joinStep_lens (out : List Blk) (b : Blk) : lensB (joinStep out b) ≤ lensB out + lensB [b] := by
  have h1 : lensB [b] = 1 + b.2.length := by rw [lensB_cons]; rfl
  unfold joinStep
  split
  · omega
  · split
    · rename_i c hc
      split
      · rw [lensB_set hc]; omega
      · rw [lensB_append]; exact Nat.le_refl _
    · rw [lensB_append]; exact Nat.le_refl _
theorem joinF_lens : ∀ (p out : List Blk), lensB (p.foldl joinStep out) ≤ lensB out + lensB p
  | [], out => by simp [lensB]
  | b :: p, out => by
    have h1 := joinStep_lens out b
    have h2 := joinF_lens p (joinStep out b)
    have h3 : lensB (b :: p) = lensB [b] + lensB p := by rw [← lensB_append]; rfl
    rw [List.foldl_cons]; omega
theorem joinB_lens (p : List Blk) : lensB (joinB p) ≤ lensB p := by
  have h := joinF_lens p []
  have h0 : lensB [] = 0 := rfl
  unfold joinB; omega
end Go.Gh
namespace Go.Gh
open Go.RowKit
set_option linter.unusedVariables false
set_option linter.unusedSimpArgs false
/-- Variables that ascend strictly. -/
def riseS (last : Int) : List Int → Bool
  | [] => true
  | x :: l => isVar x && decide (last < x) && riseS x l
def withinB (l : List (List Int)) (vars : List Int) : Bool := l.all fun c => c.all fun x => vars.contains (absW x)
def mayQ (q : QbfP) : Bool := mayB q.pre && cnfB q.cls && withinB q.cls (flatB q.pre)
def DqbfP.all (d : DqbfP) : List Int := d.univ ++ d.exist.map (·.1)
/-- Is what a variable depends on valid? -/
def onOk (univ : List Int) (x : Dep) : Bool := riseS 0 x.2 && x.2.all fun v => univ.contains v
def mayD (d : DqbfP) : Bool := decide (d.all.length ≤ 1024) && singleS [] d.all && riseS 0 d.univ && riseS 0 (d.exist.map (·.1)) && cnfB d.cls && withinB d.cls d.all && d.exist.all (onOk d.univ)
def mayDP (d : DqbfP) : Bool := (d.exist.all fun x => !d.univ.contains x.1 && onOk d.univ x) && (riseS 0 d.univ && riseS 0 (d.exist.map (·.1)) && decide (d.univ.length + d.exist.length ≤ 1024) && cnfG (fun v => d.all.contains v) d.cls)
theorem riseS_gt : ∀ {l : List Int} {last : Int}, riseS last l = true → ∀ x ∈ l, last < x ∧ isVar x = true
  | [], _, _, x, h => by cases h
  | y :: l, last, h, x, hx => by
    rw [riseS, Bool.and_eq_true, Bool.and_eq_true, decide_eq_true_eq] at h
    rcases List.mem_cons.1 hx with rfl | hx
    · exact ⟨h.1.2, h.1.1⟩
    · obtain ⟨a, b⟩ := riseS_gt h.2 x hx
      exact ⟨by omega, b⟩
theorem riseS_single : ∀ {l : List Int} {last : Int} {seen : List Int}, riseS last l = true → singleS seen l = l.all fun x => !seen.contains x
  | [], _, _, _ => rfl
  | y :: l, last, seen, h => by
    rw [riseS, Bool.and_eq_true, Bool.and_eq_true, decide_eq_true_eq] at h
    rw [singleS, h.1.1, riseS_single (seen := seen ++ [y]) h.2, List.all_cons, Bool.true_and]
    congr 1
    apply Bool.eq_iff_iff.2
    rw [List.all_eq_true, List.all_eq_true]
    constructor
    · intro hh x hx
      have := hh x hx
      simp at this ⊢
      exact this.1
    · intro hh x hx
      have := hh x hx
      have hgt := (riseS_gt h.2 x hx).1
      simp at this ⊢
      exact ⟨this, by omega⟩
theorem singleS_append : ∀ (a b seen : List Int), singleS seen (a ++ b) = (singleS seen a && singleS (seen ++ a) b)
  | [], b, seen => by simp [singleS]
  | x :: a, b, seen => by
    rw [List.cons_append, singleS, singleS, singleS_append a b]
    simp [Bool.and_assoc]
theorem mayD_eq (d : DqbfP) : mayDP d = mayD d := by
  unfold mayDP mayD
  cases h1 : riseS 0 d.univ with
  | false => simp
  | true =>
    cases h2 : riseS 0 (d.exist.map (·.1)) with
    | false => simp
    | true =>
      have hs : singleS [] d.all = d.exist.all fun x => !d.univ.contains x.1 := by
        unfold DqbfP.all
        have ht : (d.univ.all fun x => !([] : List Int).contains x) = true := by rw [List.all_eq_true]; intro x _; rfl
        rw [singleS_append, riseS_single h1, riseS_single h2, ht, Bool.true_and, List.nil_append, List.all_map]
        rfl
      have hl : d.all.length = d.univ.length + d.exist.length := by simp [DqbfP.all]
      have hsplit : (d.exist.all fun x => !d.univ.contains x.1 && onOk d.univ x) = ((d.exist.all fun x => !d.univ.contains x.1) && d.exist.all (onOk d.univ)) := by
        generalize d.exist = l
        induction l with
        | nil => rfl
        | cons a l ih => rw [List.all_cons, List.all_cons, List.all_cons, ih]; cases d.univ.contains a.1 <;> cases onOk d.univ a <;> simp
      rw [hs, hl, hsplit, cnfG_eq]
      unfold withinB
      cases (d.exist.all fun x => !d.univ.contains x.1) <;> cases d.exist.all (onOk d.univ) <;> cases decide (d.univ.length + d.exist.length ≤ 1024) <;> cases cnfB d.cls <;> simp
theorem findO_flat {v : Int} : ∀ {p : List Blk} {k : Nat}, (findO k p v).isSome = (flatB p).contains v
  | [], k => rfl
  | b :: p, k => by
    rw [findO, flatB_cons]
    by_cases h : b.2.contains v = true
    · rw [if_pos h]
      have : v ∈ b.2 := by simpa using h
      simp [this]
    · rw [if_neg h, findO_flat]
      have : v ∉ b.2 := by simpa using h
      simp [this]
/-- A set of numbers as a map to true: numbers may come twice. -/
def setK (l : List Int) : List (Int × DV) := l.foldl (fun E v => kset v (.bool true) E) []
theorem setK_push {l : List Int} {i : Nat} {v : Int} (h : l[i]? = some v) : setK (l.take (i + 1)) = kset v (.bool true) (setK (l.take i)) := by
  unfold setK; rw [take_get h, List.foldl_append]; rfl
theorem setF_get (k : Int) : ∀ (l : List Int) (E : List (Int × DV)), kget k (l.foldl (fun E v => kset v (.bool true) E) E) = if l.contains k then some (.bool true) else kget k E
  | [], E => by simp
  | v :: l, E => by
    rw [List.foldl_cons, setF_get k l, kget_set, List.contains_cons]
    by_cases h1 : l.contains k = true
    · rw [if_pos h1, h1]; simp
    · have h1' : l.contains k = false := by simpa using h1
      rw [if_neg h1, h1']
      by_cases h2 : k = v
      · simp [h2]
      · have : (k == v) = false := by simpa using h2
        rw [if_neg h2, this]; simp
theorem setK_get (l : List Int) (k : Int) : kget k (setK l) = if l.contains k then some (.bool true) else none := by unfold setK; rw [setF_get]; rfl
theorem setF_setK (a b : List Int) (k : Int) : kget k (b.foldl (fun E v => kset v (.bool true) E) (setK a)) = if (a ++ b).contains k then some (.bool true) else none := by
  rw [setF_get, setK_get]
  by_cases h1 : k ∈ b <;> by_cases h2 : k ∈ a <;> simp [h1, h2]
theorem look_set {σ : GS} {id : Nat} {E : List (Int × DV)} {l : List Int} (hM : MpO kint σ id E) (hE : ∀ k, kget k E = if l.contains k then some (.bool true) else none) (v : Int) : gload (.lookup (.int .i64) (.bool false) false) [.map id, .int .i64 v] σ = some (.bool (l.contains v)) := by
  rw [hM.lookup (kt := .int .i64) v (.bool false) false, hE v]
  cases l.contains v <;> rfl
theorem look_set2 {σ : GS} {id : Nat} {E : List (Int × DV)} {l : List Int} (hM : MpO kint σ id E) (hE : ∀ k, kget k E = if l.contains k then some (.bool true) else none) (v : Int) : gload (.lookup (.int .i64) (.bool false) true) [.map id, .int .i64 v] σ = some (.tuple [.bool (l.contains v), .bool (l.contains v)]) := by
  rw [hM.lookup (kt := .int .i64) v (.bool false) true, hE v]
  cases l.contains v <;> rfl
end Go.Gh
namespace Go.Gh
set_option linter.unusedVariables false
set_option linter.unusedSimpArgs false
section
variable {α : Type} (kf : α → Int)
def Sd (l : List α) : Prop := l.Pairwise fun x y => kf x ≤ kf y
def Sim (l m : List α) : Prop := ∀ k, m.filter (fun d => kf d == k) = l.filter (fun d => kf d == k)
variable {kf}
theorem Sim.refl (l : List α) : Sim kf l l := fun _ => rfl
theorem Sim.trans {l m n : List α} (h1 : Sim kf l m) (h2 : Sim kf m n) : Sim kf l n := fun k => (h2 k).trans (h1 k)
theorem Sim.append {a b c d : List α} (h1 : Sim kf a b) (h2 : Sim kf c d) : Sim kf (a ++ c) (b ++ d) := fun k => by rw [List.filter_append, List.filter_append, h1 k, h2 k]
theorem Sim.mid {l m : List α} (h : Sim kf l m) (a b : List α) : Sim kf (a ++ l ++ b) (a ++ m ++ b) := ((Sim.refl a).append h).append (.refl b)
theorem Sim.mem {l m : List α} (h : Sim kf l m) {x : α} : x ∈ m ↔ x ∈ l := by
  have := h (kf x)
  have h1 : x ∈ m.filter (fun d => kf d == kf x) ↔ x ∈ l.filter (fun d => kf d == kf x) := by rw [this]
  simpa using h1
theorem Sim.swap {a b : List α} (h : ∀ x ∈ a, ∀ y ∈ b, kf y < kf x) : Sim kf (a ++ b) (b ++ a) := fun k => by
  rw [List.filter_append, List.filter_append]
  by_cases ha : a.filter (fun d => kf d == k) = []
  · rw [ha]; simp
  · have hb : b.filter (fun d => kf d == k) = [] := by
      rw [List.filter_eq_nil_iff]
      intro y hy hk
      obtain ⟨x, hx⟩ := List.exists_mem_of_ne_nil _ ha
      rw [List.mem_filter] at hx
      have := h x hx.1 y hy
      simp at hk hx
      omega
    rw [hb]; simp
theorem Sim.len : ∀ {l m : List α}, Sim kf l m → m.length = l.length
  | [], m, h => by
    cases m with
    | nil => rfl
    | cons y m => have := (h.mem (x := y)).1 (by simp); simp at this
  | x :: l, m, h => by
    have hx : x ∈ m := h.mem.2 (by simp)
    -- the first element of x's key in m is x
    obtain ⟨p, q, hm⟩ : ∃ p q, m = p ++ x :: q ∧ p.filter (fun d => kf d == kf x) = [] := by
      have h1 := h (kf x)
      rw [List.filter_cons_of_pos (by simp)] at h1
      clear h hx
      induction m with
      | nil => simp at h1
      | cons y m ih =>
        by_cases hy : kf y = kf x
        · rw [List.filter_cons_of_pos (by simp [hy])] at h1
          obtain ⟨e, _⟩ := List.cons.inj h1
          subst e
          exact ⟨[], m, rfl, rfl⟩
        · rw [List.filter_cons_of_neg (by simp [hy])] at h1
          obtain ⟨p, q, h2, h3⟩ := ih h1
          exact ⟨y :: p, q, by rw [h2]; rfl, by rw [List.filter_cons_of_neg (by simp [hy]), h3]⟩
    have hs : Sim kf l (p ++ q) := fun k => by
      have h1 := h k
      rw [hm.1, List.filter_append] at h1
      rw [List.filter_append]
      by_cases hk : kf x = k
      · subst hk
        rw [hm.2] at h1 ⊢
        rw [List.filter_cons_of_pos (by simp), List.filter_cons_of_pos (by simp)] at h1
        simpa using h1
      · rw [List.filter_cons_of_neg (by simpa using hk), List.filter_cons_of_neg (by simpa using hk)] at h1
        exact h1
    have := hs.len
    rw [hm.1]
    simp at this ⊢
    omega
theorem Sd.cons {x : α} {l : List α} : Sd kf (x :: l) ↔ (∀ y ∈ l, kf x ≤ kf y) ∧ Sd kf l := List.pairwise_cons
theorem Sd.append {a b : List α} : Sd kf (a ++ b) ↔ Sd kf a ∧ Sd kf b ∧ ∀ x ∈ a, ∀ y ∈ b, kf x ≤ kf y := List.pairwise_append
/-- There is but one. -/
theorem stable_one : ∀ {l m : List α}, Sd kf l → Sd kf m → Sim kf l m → m = l
  | [], m, _, _, h => List.length_eq_zero_iff.1 h.len
  | x :: l, [], _, _, h => by have := h.len; simp at this
  | x :: l, y :: m, hl, hm, h => by
    have h1 := (Sd.cons.1 hl).1
    have h2 := (Sd.cons.1 hm).1
    have hk : kf x = kf y := by
      have a1 : kf x ≤ kf y := by
        rcases List.mem_cons.1 (h.mem.1 (List.mem_cons_self (a := y) (l := m))) with e | e
        · rw [e]; exact Int.le_refl _
        · exact h1 y e
      have a2 : kf y ≤ kf x := by
        rcases List.mem_cons.1 (h.mem.2 (List.mem_cons_self (a := x) (l := l))) with e | e
        · rw [← e]; exact Int.le_refl _
        · exact h2 x e
      omega
    have hxy : y = x := by
      have := h (kf x)
      rw [List.filter_cons_of_pos (by simpa using hk.symm), List.filter_cons_of_pos (by simp)] at this
      exact (List.cons.inj this).1
    subst hxy
    congr 1
    refine stable_one (Sd.cons.1 hl).2 (Sd.cons.1 hm).2 fun k => ?_
    have := h k
    by_cases e : kf y = k
    · rw [List.filter_cons_of_pos (by simpa using e), List.filter_cons_of_pos (by simpa using e)] at this
      exact (List.cons.inj this).2
    · rw [List.filter_cons_of_neg (by simpa using e), List.filter_cons_of_neg (by simpa using e)] at this
      exact this
/-- An element's place, by what stands before it. -/
theorem at_mid {a b : List α} {x : α} {i : Nat} (h : a.length = i) : (a ++ x :: b)[i]? = some x := by subst h; simp
theorem set_mid {a b : List α} {x y : α} {i : Nat} (h : a.length = i) : (a ++ x :: b).set i y = a ++ y :: b := by subst h; simp
theorem Sd.sub {a b c : List α} (h : Sd kf (a ++ b ++ c)) : Sd kf b := (Sd.append.1 (Sd.append.1 h).1).2.1
end
end Go.Gh
namespace Go.Gh
open Go.RowKit Go.Sort Go.Proofs
set_option linter.unusedVariables false
set_option linter.unusedSimpArgs false
abbrev OneV := { v : Value // v.oneCell' = true }
instance oneVInh : Inhabited (Int × OneV) := ⟨(0, ⟨.int .i64 0, rfl⟩)⟩
abbrev encD (x : Int × OneV) : List Value := [.int .i64 x.1, x.2.1]
abbrev cfD (x y : Int × OneV) : Int := Lib.compareInt x.1 y.1
theorem ltD (x y : Int × OneV) : ltOf cfD x y = decide (x.1 < y.1) := by
  unfold ltOf cfD Lib.compareInt
  by_cases h1 : x.1 < y.1
  · simp [h1]
  · by_cases h2 : y.1 < x.1 <;> simp [h1, h2]
theorem swoD : SWO (ltOf cfD) where
  irrefl x := by rw [ltD]; simp
  trans x y z h1 h2 := by rw [ltD] at *; simp at *; omega
  ntrans x y z h1 h2 := by rw [ltD] at *; simp at *; omega
/-- What the library's SortFunc does with rows of two cells, by the first. -/
def SortFC (P : Program) (f g : FuncId) : Prop :=
  (∀ (blk off cap : Nat) (d : Array (Int × OneV)) (w : World), HoldsK encD 2 w blk off d → blk < w.heap.size → d.size < 4611686018427387904 →
    Calls P f #[.slice (some ⟨blk, off, none⟩) d.size cap, .func (.func g) #[] #[]] w fun e w' => e = .returned (.tuple #[]) ∧ ∃ d' n os, PermIn 0 d.size d d' ∧ SortedIn (ltOf cfD) 0 d.size d' ∧ w' = sortWorldK encD 2 w blk off n d' os) ∧
  (∀ (p : Option Addr) (cap : Nat) (w : World), Calls P f #[.slice p 0 cap, .func (.func g) #[] #[]] w fun e w' => e = .returned (.tuple #[]) ∧ w' = w)
theorem putRow_setV {w : World} {blk off : Nat} {d : Array Value} {cur : Array Value} {t : TypeId} (h : w.heap[blk]? = some (.cells cur t (0, 0))) :
    putRow id w blk off d = w.setRow blk (putCells id off d cur) := by
  unfold putRow mapBlock World.setRow
  congr 1
  apply Array.ext_getElem?
  intro i
  simp only [Array.getElem?_modify]
  by_cases hi : blk = i
  · subst hi; simp [h, onCells]
  · simp [hi]
/-- Two lists whose elements belong together, and a permutation of the one. -/
inductive Two {α β : Type} (R : α → β → Prop) : List α → List β → Prop
  | nil : Two R [] []
  | cons {a b l m} : R a b → Two R l m → Two R (a :: l) (b :: m)
theorem Two.length {α β : Type} {R : α → β → Prop} {l : List α} {m : List β} (h : Two R l m) : l.length = m.length := by
  induction h with
  | nil => rfl
  | cons _ _ ih => simp [ih]
theorem Two.perm {α β : Type} {R : α → β → Prop} {m m' : List β} (hp : m.Perm m') : ∀ {l : List α}, Two R l m → ∃ l', l.Perm l' ∧ Two R l' m' := by
  induction hp with
  | nil => intro l h; cases h; exact ⟨[], .nil, .nil⟩
  | cons x _ ih => intro l h; cases h with
    | cons h1 h2 => obtain ⟨l', p, q⟩ := ih h2; exact ⟨_ :: l', .cons _ p, .cons h1 q⟩
  | swap x y m => intro l h; cases h with
    | cons h1 h2 => cases h2 with
      | cons h3 h4 => exact ⟨_, .swap _ _ _, .cons h3 (.cons h1 h4)⟩
  | trans _ _ ih1 ih2 => intro l h; obtain ⟨l1, p1, q1⟩ := ih1 h; obtain ⟨l2, p2, q2⟩ := ih2 q1; exact ⟨l2, p1.trans p2, q2⟩
theorem Two.get {α β : Type} {R : α → β → Prop} {l : List α} {m : List β} (h : Two R l m) : ∀ (i : Nat) a b, l[i]? = some a → m[i]? = some b → R a b := by
  induction h with
  | nil => intro i a b h; simp at h
  | cons h1 _ ih =>
    intro i a b h2 h3
    cases i with
    | zero => simp at h2 h3; subst h2 h3; exact h1
    | succ i => exact ih i a b (by simpa using h2) (by simpa using h3)
theorem Two.mk {α β : Type} {R : α → β → Prop} : ∀ {l : List α} {m : List β}, l.length = m.length → (∀ (i : Nat) a b, l[i]? = some a → m[i]? = some b → R a b) → Two R l m
  | [], [], _, _ => .nil
  | a :: l, b :: m, hl, h => .cons (h 0 a b rfl rfl) (Two.mk (by simpa using hl) fun i x y h1 h2 => h (i + 1) x y (by simpa using h1) (by simpa using h2))
  | [], _ :: _, hl, _ => by simp at hl
  | _ :: _, [], hl, _ => by simp at hl
end Go.Gh
namespace Go.Gh
open Go.RowKit Go.Sort Go.Proofs
set_option linter.unusedVariables false
set_option linter.unusedSimpArgs false
theorem flat_at {xs : List Dep} {rest : List DV} {i : Nat} {x : Dep} (h : xs[i]? = some x) : (xs.flatMap edep ++ rest)[i * 2]? = some (.int .i64 x.1) ∧ (xs.flatMap edep ++ rest)[i * 2 + 1]? = some (fints x.2) := by
  have he := elem_cells (enc := edep) (sz := 2) (fun _ => rfl) xs rest i x h
  have h0 : (((xs.flatMap edep ++ rest).drop (i * 2)).take 2)[0]? = some (.int .i64 x.1) := by rw [he]; rfl
  have h1 : (((xs.flatMap edep ++ rest).drop (i * 2)).take 2)[1]? = some (fints x.2) := by rw [he]; rfl
  rw [List.getElem?_take, if_pos (by omega), List.getElem?_drop] at h0 h1
  exact ⟨by simpa using h0, h1⟩
/-- A dependency and what it is in a world. -/
def RD (ρ : Ren) (x : Dep) (a : Int × OneV) : Prop := a.1 = x.1 ∧ VR ρ (fints x.2) a.2.1
set_option maxHeartbeats 2000000 in
theorem sortF_gcall {P : Program} {f g : FuncId} (hS : SortFC P f g) (hex : ∃ fn, P.funcs[f]? = some fn ∧ (fn.name == "runtime.NumGoroutine") = false ∧ fn.body.isSome = true) {σ : GS} {id : Nat} {cap : Option Nat} {rest : List DV} {xs : List Dep}
    (hid : σ[id]? = some (.row false (xs.flatMap edep ++ rest))) (hn : xs.length < 4611686018427387904) :
    GCall P f [.slice id 0 xs.length 2 cap, .func g [] []] σ fun v σ' => v = .tuple [] ∧ ∃ ys, xs.Perm ys ∧ ys.Pairwise (fun x y => x.1 ≤ y.1) ∧ σ' = σ.set id (.row false (ys.flatMap edep ++ rest)) := by
  refine ⟨hex, fun N w0 ρ w rargs hrel hv => ?_⟩
  obtain ⟨rv, rg, rfl, hv1, hv2⟩ := hv.two_inv
  obtain ⟨ga, gb, hga, hgb, rfl⟩ := hv2.func_inv
  simp only [VRs] at hga hgb
  subst hga hgb
  obtain ⟨L, a, c, hL, rfl, hlc, hca, hcap, hext⟩ := hv1.slice_inv
  have hlt := hrel.dom id L hL
  have htu : VR ρ (.tuple []) (.tuple #[]) := by simp only [VR]; exact ⟨[], VRs.nil, rfl⟩
  by_cases h0 : xs.length = 0
  · have hx0 := List.length_eq_zero_iff.1 h0
    subst hx0
    refine (hS.2 a c w).mono ?_
    rintro e w' ⟨rfl, rfl⟩
    refine ⟨_, _, ρ, σ, rfl, hrel, Ext.refl _ _ _, Nat.le_refl _, htu, rfl, [], .refl _, .nil, ?_⟩
    apply List.ext_getElem?
    intro i
    by_cases hi : i = id
    · subst hi; rw [List.getElem?_set_self hlt, hid]
    · rw [List.getElem?_set_ne (fun e => hi e.symm)]
  · have hc0 : c ≠ 0 := by omega
    cases hca hc0
    obtain ⟨hc, _, hk⟩ := hrel.row id L false _ hL hid
    obtain ⟨hN, hle, cells, e, hcell, hsz⟩ := hk rfl
    have hcl : ∀ (j : Nat) (v : DV), (xs.flatMap edep ++ rest)[j]? = some v → ∃ rv, cells[L.off + j]? = some rv ∧ VR ρ v rv := fun j v hj => by
      obtain ⟨rv, q1, q2⟩ := hc j v hj
      exact ⟨rv, by simpa [World.cell?, hcell] using q1, q2⟩
    have hch : ∀ i : Fin xs.length, ∃ z : Int × OneV, RD ρ xs[i] z ∧ cells[L.off + i.val * 2]? = some (.int .i64 z.1) ∧ cells[L.off + i.val * 2 + 1]? = some z.2.1 := fun i => by
      have hxi : xs[i.val]? = some xs[i] := by simp
      obtain ⟨f1, f2⟩ := flat_at (rest := rest) hxi
      obtain ⟨r1, a1, a2⟩ := hcl _ _ f1
      obtain ⟨r2, b1, b2⟩ := hcl _ _ f2
      have e1 := a2.int_inv
      subst e1
      obtain ⟨s1, s2, s3, hs⟩ := b2.fsl_shape
      refine ⟨(xs[i].1, ⟨r2, by rw [hs]; rfl⟩), ⟨rfl, b2⟩, a1, by rw [← b1]; rfl⟩
    obtain ⟨zs, hzl, hz⟩ : ∃ zs : List (Int × OneV), zs.length = xs.length ∧ ∀ (i : Nat) x z, xs[i]? = some x → zs[i]? = some z → RD ρ x z ∧ cells[L.off + i * 2]? = some (.int .i64 z.1) ∧ cells[L.off + i * 2 + 1]? = some z.2.1 := by
      refine ⟨List.ofFn fun i => Classical.choose (hch i), by simp, fun i x z h1 h2 => ?_⟩
      have hi := get_dom h1
      rw [List.getElem?_eq_getElem hi] at h1
      cases h1
      rw [List.getElem?_ofFn] at h2
      simp only [hi, dif_pos] at h2
      cases h2
      exact Classical.choose_spec (hch ⟨i, hi⟩)
    have hH : HoldsK encD 2 w L.blk L.off zs.toArray := by
      intro j hj
      rw [size_flatK] at hj
      have hj' : j < zs.length * 2 := by simpa using hj
      obtain ⟨x, hx⟩ := get_lt (xs := xs) (i := j / 2) (by omega)
      obtain ⟨z, hzz⟩ := get_lt (xs := zs) (i := j / 2) (by omega)
      obtain ⟨_, q1, q2⟩ := hz _ _ _ hx hzz
      have hget : zs.toArray[j / 2]! = z := by
        have := (List.getElem?_eq_some_iff.1 hzz)
        obtain ⟨hh, he⟩ := this
        rw [getElem!_pos _ _ (by simpa using hh)]
        simpa using he
      rw [get_flatK _ _ _ _ hj, hget]
      refine ⟨?_, by simp [World.frozen?, hcell]⟩
      have hcw : w.cell? ⟨L.blk, L.off + j, none⟩ = cells[L.off + j]? := by simp [World.cell?, hcell]
      rw [hcw]
      rcases Nat.mod_two_eq_zero_or_one j with hm | hm
      · rw [hm, show L.off + j = L.off + j / 2 * 2 by omega, q1]; rfl
      · rw [hm, show L.off + j = L.off + j / 2 * 2 + 1 by omega, q2]; rfl
    have hsz2 : zs.toArray.size = xs.length := by simpa using hzl
    have hcall := hS.1 L.blk L.off c zs.toArray w hH (hrel.lt id L hL) (by omega)
    rw [hsz2] at hcall
    refine hcall.mono ?_
    rintro e' w' ⟨rfl, d', n, os, ⟨hp1, _, hp3⟩, hso, rfl⟩
    have hd'l : d'.size = xs.length := by omega
    have hperm : zs.Perm d'.toList := by
      have h3 := hp3.symm
      have e1 : (zs.toArray.extract 0 xs.length).toList = zs := by simp [← hzl]
      have e2 : (d'.extract 0 xs.length).toList = d'.toList := by simp [← hd'l]
      rwa [e1, e2] at h3
    obtain ⟨ys, hxy, htwo⟩ := Two.perm hperm (Two.mk hzl.symm fun i x z h1 h2 => (hz i x z h1 h2).1)
    have hyl : ys.length = xs.length := hxy.length_eq.symm
    have hsorted : ys.Pairwise fun x y => x.1 ≤ y.1 := by
      rw [List.pairwise_iff_getElem]
      intro i j hi hj hij
      have hi' : i < d'.toList.length := by rw [← htwo.length]; exact hi
      have hj' : j < d'.toList.length := by rw [← htwo.length]; exact hj
      have r1 := htwo.get i _ _ (List.getElem?_eq_getElem hi) (List.getElem?_eq_getElem hi')
      have r2 := htwo.get j _ _ (List.getElem?_eq_getElem hj) (List.getElem?_eq_getElem hj')
      have := hso i j (Nat.zero_le _) hij (by omega)
      rw [ltD, getElem!_pos d' i (by simpa using hi'), getElem!_pos d' j (by simpa using hj')] at this
      have e1 := r1.1
      have e2 := r2.1
      simp at this e1 e2
      omega
    have hcell' : (Sort.ahead w n).heap[L.blk]? = some (.cells cells e (0, 0)) := hcell
    show ∃ v rv ρ' σ', _ = _ ∧ _
    have hrow : sortWorldK encD 2 w L.blk L.off n d' os = grow ((Sort.ahead w n).setRow L.blk (putCells _root_.id L.off (flatK encD 2 d') cells)) os := by
      unfold sortWorldK putRowK
      rw [putRow_setV hcell']
    rw [hrow]
    have r1 : Rel N w0 ρ σ (Sort.ahead w n) := hrel.same ⟨rfl, rfl, rfl, rfl⟩
    have hfl : ∀ l : List Dep, (l.flatMap edep ++ rest).length = l.length * 2 + rest.length := fun l => by rw [List.length_append, flatMap_len (sz := 2) (fun _ => rfl)]
    have hoffs : ∀ k, k < cells.size → (putCells _root_.id L.off (flatK encD 2 d') cells)[k]? = if L.off ≤ k ∧ k < L.off + d'.size * 2 then some ((flatK encD 2 d')[k - L.off]!) else cells[k]? := fun k hk => by
      simp only [putCells, Array.getElem?_mapIdx, Array.getElem?_eq_getElem hk, Option.map_some, size_flatK, _root_.id]
      split <;> rfl
    have r2 := r1.write (cs' := ys.flatMap edep ++ rest) hL hid hcell' (cur' := putCells _root_.id L.off (flatK encD 2 d') cells) (by simp [putCells]) (by
      intro j v hv
      have hjl : j < (ys.flatMap edep ++ rest).length := get_dom hv
      rw [hfl, hyl] at hjl
      obtain ⟨v0, hv0⟩ : ∃ v0, (xs.flatMap edep ++ rest)[j]? = some v0 := ⟨_, List.getElem?_eq_getElem (by rw [hfl]; exact hjl)⟩
      obtain ⟨rv, q1, q2⟩ := hcl j v0 hv0
      have hksz : L.off + j < cells.size := by
        have := (Array.getElem?_eq_some_iff.1 q1).1
        exact this
      by_cases h1 : j < xs.length * 2
      · obtain ⟨y, hy⟩ := get_lt (xs := ys) (i := j / 2) (by omega)
        obtain ⟨z, hzz⟩ := get_lt (xs := d'.toList) (i := j / 2) (by simp; omega)
        obtain ⟨t1, t2⟩ := htwo.get _ _ _ hy hzz
        obtain ⟨f1, f2⟩ := flat_at (rest := rest) hy
        have hget : d'[j / 2]! = z := by
          obtain ⟨hh, he⟩ := List.getElem?_eq_some_iff.1 hzz
          rw [getElem!_pos _ _ (by simpa using hh)]
          simpa using he
        refine ⟨(encD z)[j % 2]!, ?_, ?_⟩
        · rw [hoffs _ hksz, if_pos (by omega), show L.off + j - L.off = j by omega, get_flatK _ _ _ _ (by omega), hget]
        · rcases Nat.mod_two_eq_zero_or_one j with hm | hm
          · rw [show j = j / 2 * 2 by omega, f1] at hv
            cases hv
            rw [hm]
            show VR ρ (.int .i64 y.1) (.int .i64 z.1)
            rw [t1]; simp only [VR]
          · rw [show j = j / 2 * 2 + 1 by omega, f2] at hv
            cases hv
            rw [hm]
            exact t2
      · refine ⟨rv, ?_, ?_⟩
        · rw [hoffs _ hksz, if_neg (by omega)]; exact q1
        · rw [List.getElem?_append_right (by rw [flatMap_len (sz := 2) (fun _ => rfl)]; omega), flatMap_len (sz := 2) (fun _ => rfl)] at hv hv0
          rw [hyl] at hv
          rw [hv] at hv0; cases hv0; exact q2) (by rw [hfl] at hle ⊢; rw [hyl]; exact hle)
    have e2 : Ext σ.length ρ w ρ ((Sort.ahead w n).setRow L.blk (putCells _root_.id L.off (flatK encD 2 d') cells)) :=
      Ext.same (w1 := Sort.ahead w n) ⟨rfl, rfl, rfl, rfl⟩ (Ext.row r1 hL hid ⟨by simp [World.setRow], fun k hk => setRow_other _ _ _ _ hk⟩)
    obtain ⟨g1, g2⟩ := grow_list os.toList _ r2
    refine ⟨_, _, ρ, _, rfl, by simpa using g1, e2.trans (by simpa using g2 _) (Nat.le_refl _), by simp, htu, rfl, ys, hxy, hsorted, rfl⟩
/-- The sort of a list of one's own. -/
theorem Own.sortF {P : Program} {f g : FuncId} (hS : SortFC P f g) (hex : ∃ fn, P.funcs[f]? = some fn ∧ (fn.name == "runtime.NumGoroutine") = false ∧ fn.body.isSome = true) {n : Nat} {σ : GS} {s : DV} {xs : List Dep}
    (h : Own n 2 edep σ s xs) (hl : xs.length < 4611686018427387904) (hn : n ≤ σ.length) :
    GCall P f [s, .func g [] []] σ fun v σ' => v = .tuple [] ∧ ∃ ys, xs.Perm ys ∧ ys.Pairwise (fun x y => x.1 ≤ y.1) ∧ Own n 2 edep σ' s ys ∧ Fr n σ σ' ∧ σ'.length = σ.length := by
  rcases h with ⟨rfl, rfl⟩ | ⟨id, cap, rest, h1, rfl, h3, h4⟩
  · refine ⟨hex, fun N w0 ρ w rargs hrel hv => ?_⟩
    obtain ⟨rv, rg, rfl, hv1, hv2⟩ := hv.two_inv
    obtain ⟨ga, gb, hga, hgb, rfl⟩ := hv2.func_inv
    simp only [VRs] at hga hgb
    subst hga hgb
    rw [hv1.nils_inv]
    refine (hS.2 none 0 w).mono ?_
    rintro e w' ⟨rfl, rfl⟩
    exact ⟨_, _, ρ, σ, rfl, hrel, Ext.refl _ _ _, Nat.le_refl _, by simp only [VR]; exact ⟨[], VRs.nil, rfl⟩, rfl, [], .refl _, .nil, .nil, .refl hn, rfl⟩
  · refine (sortF_gcall hS hex h3 hl).mono ?_
    rintro v σ' ⟨rfl, ys, y1, y2, rfl⟩
    have hyl := y1.length_eq
    refine ⟨rfl, ys, y1, y2, .inr ⟨id, cap, rest, h1, by rw [hyl], by rw [List.getElem?_set_self (get_dom h3)], by rw [← hyl]; exact h4⟩, ⟨by simpa using hn, fun j hj => List.getElem?_set_ne (by omega)⟩, by simp⟩
end Go.Gh
