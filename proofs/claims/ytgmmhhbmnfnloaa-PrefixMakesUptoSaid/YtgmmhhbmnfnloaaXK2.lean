/-
  Proved: Join, Less and Close return what the reference returns, for any blocks, numbers and formula, and the arguments stay; where what is read is of bulk at most 1048576.
  Part 2 of 7. Conditions: none. A verified frame that runs compiled texts over a ghost heap, the contracts of the functions that the statement reaches, and the plain law.
-/
import Derived.Test.YtgmmhhbmnfnloaaXK1
namespace Go.Gh
open Go.RowKit
set_option linter.unusedVariables false
set_option linter.unusedSimpArgs false

def isL (listed : Array Bool) (s : GStep) : Prop := listed.getD s.i false = true
instance (listed : Array Bool) (s : GStep) : Decidable (isL listed s) := inferInstanceAs (Decidable (_ = true))

/-- The ghost run has done pre; the world has done what is listed. -/
structure RInv (P : Program) (ops : Array Oper) (st : List GStep) (N : Nat) (w0 : World) (n0 : Nat) (ρ0 : Ren) (ww : World) (D0 : List Deferred) (env0 : Env)
    (pre rest : List GStep) (listed : Array Bool) (a : Act) (w : World) (ρ : Ren) (env M : Env) (σ : GS) (idf : Nat → Option Nat) : Prop where
  split : st = pre ++ rest
  size : listed.size = ops.size
  closed : ∀ (j : Nat) o, ops[j]? = some o → listed.getD j false = true → ∀ e ∈ o.after, Region.binds .any e = true → listed.getD e.on false = true
  sub : ∀ j, listed.getD j false = true → j ∈ pre.map (·.i)
  rel : Rel N w0 ρ σ w
  envM : EnvR ρ M a
  lenM : M.length = env.length
  len0 : env0.length = env.length
  mix1 : ∀ t s, s ∈ pre → isL listed s → s.op.dst = some t → M[t]? = env[t]?
  mix0 : ∀ t, (∀ s ∈ pre, isL listed s → s.op.dst ≠ some t) → M[t]? = env0[t]?
  unw : ∀ t, (∀ s ∈ pre, s.op.dst ≠ some t) → env[t]? = env0[t]?
  pend : ∀ p s q, pre = p ++ s :: q → ¬ isL listed s → ∃ ei, Pend s.op ei env σ ρ (idf s.i) ∧ (∀ t s', s' ∈ p → s'.op.dst = some t → ei[t]? = env[t]?) ∧ (∀ t, (∀ s' ∈ p, s'.op.dst ≠ some t) → ei[t]? = env0[t]?)
  quiet : ∀ s ∈ pre, s.op.loud = true → isL listed s
  idlt : ∀ s ∈ pre, ∀ id, idf s.i = some id → id < σ.length ∧ n0 ≤ id
  inj : ∀ s ∈ pre, ∀ s' ∈ pre, s.i ≠ s'.i → ∀ id, idf s.i = some id → idf s'.i ≠ some id
  grow : Ext n0 ρ0 ww ρ w
  n0le : n0 ≤ σ.length
  defs : a.defers = D0

section
variable {P : Program} {ops : Array Oper} {st : List GStep} {N : Nat} {w0 : World} {n0 : Nat} {ρ0 : Ren} {ww : World} {D0 : List Deferred} {env0 : Env} {B : Nat → Nat → Bool}
variable {pre rest : List GStep} {listed : Array Bool} {a : Act} {w : World} {ρ : Ren} {env M : Env} {σ : GS} {idf : Nat → Option Nat}

theorem nodup_mid {l : List GStep} {p q : List GStep} {s : GStep} (h : (l.map (·.i)).Nodup) (hl : l = p ++ s :: q) : s.i ∉ p.map (·.i) ∧ s.i ∉ q.map (·.i) := by
  subst hl
  simp only [List.map_append, List.map_cons, List.nodup_append, List.nodup_cons] at h
  refine ⟨fun hm => ?_, h.2.1.1⟩
  exact h.2.2 _ hm _ (by simp) rfl
theorem same_i {l : List GStep} (h : (l.map (·.i)).Nodup) {s s' : GStep} (hs : s ∈ l) (hs' : s' ∈ l) (he : s.i = s'.i) : s = s' := by
  obtain ⟨p, q, rfl⟩ := List.append_of_mem hs
  obtain ⟨h1, h2⟩ := nodup_mid h rfl
  simp only [List.mem_append, List.mem_cons] at hs'
  rcases hs' with h' | rfl | h'
  · exact absurd (he ▸ List.mem_map_of_mem h') h1
  · rfl
  · exact absurd (he ▸ List.mem_map_of_mem h') h2

/-- What a quiet operation does in the ghost run. -/
theorem quiet_cases {g : GOp} (hq : g.loud = false) {K : DV → GS → Prop} (h : gop P g env σ K) :
    (gon env g.guard = some false ∧ K (.tuple []) σ) ∨ (gon env g.guard = some true ∧
      ((∃ k v, g.kind = .pure k ∧ gpure k (g.args.map (garg env)) = some v ∧ K v σ) ∨ (∃ k v, g.kind = .load k ∧ gload k (g.args.map (garg env)) σ = some v ∧ K v σ) ∨
       (∃ k obj mk, g.kind = .new k ∧ galloc k (g.args.map (garg env)) = some (obj, mk) ∧ K (mk σ.length) (σ ++ [obj])))) := by
  unfold gop at h
  split at h
  · rename_i hon
    refine .inr ⟨hon, ?_⟩
    unfold gdo at h
    cases hk : g.kind with
    | pure k =>
      rw [hk] at h; simp only at h
      split at h
      · rename_i v hv; exact .inl ⟨k, v, rfl, hv, h⟩
      · exact h.elim
    | load k =>
      rw [hk] at h; simp only at h
      split at h
      · rename_i v hv; exact .inr (.inl ⟨k, v, rfl, hv, h⟩)
      · exact h.elim
    | new k =>
      rw [hk] at h; simp only at h
      split at h
      · rename_i obj mk hv; exact .inr (.inr ⟨k, obj, mk, rfl, hv, h⟩)
      · exact h.elim
    | imp k => simp [GOp.loud, hk] at hq
    | call k => simp [GOp.loud, hk] at hq
    | xcall k => simp [GOp.loud, hk] at hq
    | callv => simp [GOp.loud, hk] at hq
    | mnext => simp [GOp.loud, hk] at hq
    | eqn n => simp [GOp.loud, hk] at hq
    | bad => simp [GOp.loud, hk] at hq
  · rename_i hon; exact .inl ⟨hon, h⟩
  · exact h.elim

/-- The ghost run goes one quiet step ahead. -/
theorem RInv.advance (hp : PlanOk P ops B st) {s : GStep} (h : RInv P ops st N w0 n0 ρ0 ww D0 env0 pre (s :: rest) listed a w ρ env M σ idf) (hq : s.op.loud = false) {K : Env → GS → Prop} (hk : gsteps P (s :: rest) env σ K) :
    ∃ env' σ' idf', RInv P ops st N w0 n0 ρ0 ww D0 env0 (pre ++ [s]) rest listed a w ρ env' M σ' idf' ∧ gsteps P rest env' σ' K := by
  have hnd := hp.nodup
  have hsplit := h.split
  obtain ⟨hni, _⟩ := nodup_mid hnd hsplit
  have hsm : s ∈ st := by rw [hsplit]; simp
  have hpm : ∀ s' ∈ pre, s' ∈ st := fun s' hs' => by rw [hsplit]; simp [hs']
  have hnl : ¬ isL listed s := fun hl => hni (h.sub _ hl)
  have hne : ∀ s' ∈ pre, s'.i ≠ s.i := fun s' hs' e => hni (e ▸ List.mem_map_of_mem hs')
  have hdst : ∀ s' ∈ pre, ∀ t, s'.op.dst = some t → s.op.dst ≠ some t := fun s' hs' t ht => hp.dst s' (hpm s' hs') s hsm (hne s' hs') t ht
  -- the new state, whatever the step yields
  have build : ∀ (v : DV) (σ' : GS) (idf' : Nat → Option Nat), σ.length ≤ σ'.length → (∀ os : Nat, os < σ.length → σ'[os]? = σ[os]?) → Rel N w0 ρ σ' w → (∀ k l u, gload k l σ = some u → gload k l σ' = some u) →
      (∀ s' ∈ pre, idf' s'.i = idf s'.i) → (∀ id, idf' s.i = some id → id < σ'.length ∧ σ.length ≤ id) →
      Pend s.op env (gput env s.op.dst v) σ' ρ (idf' s.i) → RInv P ops st N w0 n0 ρ0 ww D0 env0 (pre ++ [s]) rest listed a w ρ (gput env s.op.dst v) M σ' idf' := by
    intro v σ' idf' hlen hold hrel hload hid hidn hpd
    have hene : ∀ s' ∈ pre, ∀ t, s'.op.dst = some t → (gput env s.op.dst v)[t]? = env[t]? := fun s' hs' t ht => gput_other (hdst s' hs' t ht)
    refine ⟨by rw [hsplit]; simp, h.size, h.closed, fun j hj => by simpa using .inl (by simpa using h.sub j hj), hrel, h.envM, by rw [gput_length]; exact h.lenM, by rw [gput_length]; exact h.len0, ?_, ?_, ?_, ?_, ?_, ?_, ?_, h.grow, by have := h.n0le; omega, h.defs⟩
    · intro t s' hs' hl ht
      simp only [List.mem_append, List.mem_singleton] at hs'
      rcases hs' with hs' | rfl
      · rw [hene s' hs' t ht]; exact h.mix1 t s' hs' hl ht
      · exact absurd hl hnl
    · intro t ht
      exact h.mix0 t fun s' hs' hl => ht s' (by simp [hs']) hl
    · intro t ht
      rw [gput_other (ht s (by simp))]
      exact h.unw t fun s' hs' => ht s' (by simp [hs'])
    · intro p s1 q hpq hl1
      -- the step is the new one, or one of before
      rcases List.eq_nil_or_concat q with rfl | ⟨q', z, rfl⟩
      · have he : pre = p ∧ s = s1 := by
          have := List.append_inj' (s₁ := pre) (s₂ := p) (t₁ := [s]) (t₂ := [s1]) hpq rfl
          exact ⟨this.1, by simpa using this.2⟩
        obtain ⟨rfl, rfl⟩ := he
        refine ⟨env, hpd, fun t s' hs' ht => (hene s' hs' t ht).symm, fun t ht => h.unw t ht⟩
      · rw [List.concat_eq_append] at hpq
        have he : pre = p ++ s1 :: q' ∧ s = z := by
          have := List.append_inj' (s₁ := pre) (s₂ := p ++ s1 :: q') (t₁ := [s]) (t₂ := [z]) (by rw [hpq]; simp) rfl
          exact ⟨this.1, by simpa using this.2⟩
        obtain ⟨hpre, rfl⟩ := he
        have hs1 : s1 ∈ pre := by rw [hpre]; simp
        obtain ⟨ei, ⟨hrange, hpend⟩, h1, h2⟩ := h.pend p s1 q' hpre hl1
        have hkeep : ∀ u : DV, (∀ t, s1.op.dst = some t → t < env.length → env[t]? = some u) → ∀ t, s1.op.dst = some t → t < (gput env s.op.dst v).length → (gput env s.op.dst v)[t]? = some u := by
          intro u hu t ht hlt
          rw [hene s1 hs1 t ht]; exact hu t ht (by rwa [gput_length] at hlt)
        refine ⟨ei, ⟨?_, ?_⟩, fun t s' hs' ht => ?_, h2⟩
        · intro t ht hlt
          rw [hene s1 hs1 t ht]; exact hrange t ht (by rwa [gput_length] at hlt)
        · rw [hid s1 hs1]
          rcases hpend with ⟨g1, g2⟩ | ⟨g1, ⟨k, u, k1, k2, k3⟩ | ⟨k, u, k1, k2, k3⟩ | ⟨k, obj, mk, id, k1, k0, k2, k3, k4, k5⟩⟩
          · exact .inl ⟨g1, hkeep _ g2⟩
          · exact .inr ⟨g1, .inl ⟨k, u, k1, k2, hkeep _ k3⟩⟩
          · exact .inr ⟨g1, .inr (.inl ⟨k, u, k1, hload _ _ _ k2, hkeep _ k3⟩)⟩
          · refine .inr ⟨g1, .inr (.inr ⟨k, obj, mk, id, k1, k0, k2, hkeep _ k3, ?_, k5⟩)⟩
            rw [hold _ (h.idlt s1 hs1 id k0).1]
            exact k4
        · rw [hene s' (by rw [hpre]; simp [hs']) t ht]; exact h1 t s' hs' ht
    · intro s' hs' hl
      simp only [List.mem_append, List.mem_singleton] at hs'
      rcases hs' with hs' | rfl
      · exact h.quiet s' hs' hl
      · rw [hq] at hl; cases hl
    · intro s' hs' id hid'
      simp only [List.mem_append, List.mem_singleton] at hs'
      rcases hs' with hs' | rfl
      · rw [hid s' hs'] at hid'; have := h.idlt s' hs' id hid'; omega
      · have := hidn id hid'; have := h.n0le; omega
    · intro s' hs' s'' hs'' hne' id hk1
      simp only [List.mem_append, List.mem_singleton] at hs' hs''
      rcases hs' with hs' | rfl
      · rw [hid s' hs'] at hk1
        rcases hs'' with hs'' | rfl
        · rw [hid s'' hs'']; exact h.inj s' hs' s'' hs'' hne' id hk1
        · intro e
          have := (hidn id e).2
          have := h.idlt s' hs' id hk1
          omega
      · rcases hs'' with hs'' | rfl
        · rw [hid s'' hs'']
          intro e
          have := (hidn id hk1).2
          have := h.idlt s'' hs'' id e
          omega
        · exact absurd rfl hne'
  -- the four ways of a quiet step
  have hput : ∀ (v : DV) t, s.op.dst = some t → t < (gput env s.op.dst v).length → (gput env s.op.dst v)[t]? = some v := by
    intro v t ht hlt
    rw [ht]; exact gput_same (by rwa [gput_length] at hlt)
  have idfn : ∀ (o : Option Nat) (s' : GStep), s' ∈ pre → (fun i => if i = s.i then o else idf i) s'.i = idf s'.i := fun o s' hs' => by simp [hne s' hs']
  simp only [gsteps] at hk
  rcases quiet_cases hq hk with ⟨h1, h2⟩ | ⟨h1, ⟨k, v, h2, h3, h4⟩ | ⟨k, v, h2, h3, h4⟩ | ⟨k, obj, mk, h2, h3, h4⟩⟩
  · exact ⟨_, σ, fun i => if i = s.i then none else idf i, build (.tuple []) σ _ (Nat.le_refl _) (fun _ _ => rfl) h.rel (fun _ _ _ h => h) (idfn none) (fun id hid => by simp at hid) ⟨fun t ht hlt => ⟨_, hput _ t ht hlt⟩, .inl ⟨h1, hput _⟩⟩, h2.2⟩
  · exact ⟨_, σ, fun i => if i = s.i then none else idf i, build v σ _ (Nat.le_refl _) (fun _ _ => rfl) h.rel (fun _ _ _ h => h) (idfn none) (fun id hid => by simp at hid) ⟨fun t ht hlt => ⟨_, hput _ t ht hlt⟩, .inr ⟨h1, .inl ⟨k, v, h2, h3, hput _⟩⟩⟩, h4.2⟩
  · exact ⟨_, σ, fun i => if i = s.i then none else idf i, build v σ _ (Nat.le_refl _) (fun _ _ => rfl) h.rel (fun _ _ _ h => h) (idfn none) (fun id hid => by simp at hid) ⟨fun t ht hlt => ⟨_, hput _ t ht hlt⟩, .inr ⟨h1, .inr (.inl ⟨k, v, h2, h3, hput _⟩)⟩⟩, h4.2⟩
  · refine ⟨_, σ ++ [obj], fun i => if i = s.i then some σ.length else idf i, build (mk σ.length) (σ ++ [obj]) _ (by simp) (fun os hos => List.getElem?_append_left hos) (h.rel.ghosts [obj]) (fun k l u hu => gload_append hu _) (idfn _) (fun id hid => by simp at hid; subst hid; simp) ⟨fun t ht hlt => ⟨_, hput _ t ht hlt⟩, .inr ⟨h1, .inr (.inr ⟨k, obj, mk, σ.length, h2, by simp, h3, hput _, by simp, h.rel.none_at (Nat.le_refl _)⟩)⟩⟩, h4.2⟩
end
end Go.Gh
namespace Go.Gh
open Go.RowKit
set_option linter.unusedVariables false
set_option linter.unusedSimpArgs false

section
variable {P : Program} {ops : Array Oper} {st : List GStep} {N : Nat} {w0 : World} {n0 : Nat} {ρ0 : Ren} {ww : World} {D0 : List Deferred} {env0 : Env} {B : Nat → Nat → Bool}
variable {pre rest : List GStep} {listed : Array Bool} {a : Act} {w : World} {ρ : Ren} {env M : Env} {σ : GS} {idf : Nat → Option Nat}

theorem isL_set_ne {s : GStep} {i : Nat} (h : s.i ≠ i) : isL (listed.setIfInBounds i true) s ↔ isL listed s := by
  unfold isL; rw [getD_set_ne false (Ne.symm h)]
theorem isL_set_self {s : GStep} (h : s.i < listed.size) : isL (listed.setIfInBounds s.i true) s := by
  unfold isL; simp [h]
theorem closed_set (hc : ∀ (j : Nat) o, ops[j]? = some o → listed.getD j false = true → ∀ e ∈ o.after, Region.binds .any e = true → listed.getD e.on false = true) {i : Nat} (hr : i ∈ Region.ready .any ops listed) :
    ∀ (j : Nat) o, ops[j]? = some o → (listed.setIfInBounds i true).getD j false = true → ∀ e ∈ o.after, Region.binds .any e = true → (listed.setIfInBounds i true).getD e.on false = true := by
  intro j o ho hl e he hb
  by_cases hj : i = j
  · subst hj
    obtain ⟨_, o', ho', hall⟩ := mem_ready.1 hr
    rw [ho] at ho'; cases ho'
    exact getD_set_true (hall e he hb)
  · rw [getD_set_ne false hj] at hl
    exact getD_set_true (hc j o ho hl e he hb)
theorem not_listed_of_ready {s : GStep} (hr : s.i ∈ Region.ready .any ops listed) : ¬ isL listed s ∧ s.i < listed.size := by
  obtain ⟨h0, _⟩ := mem_ready.1 hr
  have hlt : s.i < listed.size := by
    rcases Nat.lt_or_ge s.i listed.size with h' | h'
    · exact h'
    · simp [Array.getElem?_eq_none h'] at h0
  refine ⟨fun h => ?_, hlt⟩
  unfold isL at h
  simp [hlt] at h0 h
  rw [h0] at h; cases h

/-- What a pending operation reads in the world is what it read in the ghost run. -/
theorem RInv.agree (hp : PlanOk P ops B st) (h : RInv P ops st N w0 n0 ρ0 ww D0 env0 pre rest listed a w ρ env M σ idf) {p q : List GStep} {s : GStep} (hpre : pre = p ++ s :: q) (hr : s.i ∈ Region.ready .any ops listed) {ei : Env}
    (e1 : ∀ t s', s' ∈ p → s'.op.dst = some t → ei[t]? = env[t]?) (e0 : ∀ t, (∀ s' ∈ p, s'.op.dst ≠ some t) → ei[t]? = env0[t]?) : ∀ t ∈ s.op.reads, M[t]? = ei[t]? := by
  intro t ht
  have hnd := hp.nodup
  have hst : st = p ++ s :: (q ++ rest) := by rw [h.split, hpre]; simp
  have hsm : s ∈ st := by rw [hst]; simp
  obtain ⟨hnl, hlt⟩ := not_listed_of_ready hr
  obtain ⟨_, o, ho, hall⟩ := mem_ready.1 hr
  by_cases hw : ∃ s' ∈ p, s'.op.dst = some t
  · obtain ⟨s', hs', hd⟩ := hw
    have hs'm : s' ∈ st := by rw [hst]; simp [hs']
    have hs'p : s' ∈ pre := by rw [hpre]; simp [hs']
    have hl : isL listed s' := by
      rcases hp.reads s hsm s' hs'm t ht hd with e | e | e
      · exact absurd (e ▸ List.mem_map_of_mem hs') (nodup_mid hnd hst).1
      · exact hp.listed h.closed s.i s'.i o ho hall e
      · obtain ⟨p1, q1, rfl⟩ := List.append_of_mem hs'
        have := hp.front (p := p1) (s := s') (q := q1 ++ s :: (q ++ rest)) (by rw [hst]; simp) e
        exact absurd (by simp at this ⊢; exact .inl this) (nodup_mid hnd hst).1
    rw [h.mix1 t s' hs'p hl hd, e1 t s' hs' hd]
  · have hw' : ∀ s' ∈ p, s'.op.dst ≠ some t := fun s' hs' hd => hw ⟨s', hs', hd⟩
    rw [e0 t hw']
    refine h.mix0 t fun s' hs' hl hd => ?_
    have hs'm : s' ∈ st := by rw [h.split]; simp [hs']
    rcases hp.reads s hsm s' hs'm t ht hd with e | e | e
    · have := same_i hnd hs'm hsm e; subst this; exact hnl hl
    · have := hp.front hst e
      obtain ⟨s2, hs2, hs2i⟩ := List.mem_map.1 this
      have : s2 = s' := same_i hnd (by rw [hst]; simp [hs2]) hs'm hs2i
      subst this
      exact hw' _ hs2 hd
    · obtain ⟨o', ho', _⟩ := hp.cop s' hs'm
      have := hp.listed h.closed s'.i s.i o' ho' (fun e he hb => h.closed s'.i o' ho' hl e he hb) e
      exact hnl this

/-- A pending operation is carried out in the world. -/
theorem RInv.exec (hp : PlanOk P ops B st) (h : RInv P ops st N w0 n0 ρ0 ww D0 env0 pre rest listed a w ρ env M σ idf) {s : GStep} (hs : s ∈ pre) (hr : s.i ∈ Region.ready .any ops listed)
    {rd : Option Nat} {n : Nat} {Q : Exit → Act → World → Prop} {next : Act → World → Prop}
    (hnext : ∀ a' w' ρ' M', RInv P ops st N w0 n0 ρ0 ww D0 env0 pre rest (listed.setIfInBounds s.i true) a' w' ρ' env M' σ idf → next a' w') : wpOpIn (FW rd) n P ops Q s.i next a w := by
  obtain ⟨p, q, hpre⟩ := List.append_of_mem hs
  obtain ⟨hnl, hlt⟩ := not_listed_of_ready hr
  obtain ⟨ei, ⟨hrange, hpend⟩, e1, e0⟩ := h.pend p s q hpre hnl
  have hag := h.agree hp hpre hr e1 e0
  have hsm : s ∈ st := by rw [h.split]; simp [hs]
  obtain ⟨o, ho, hc⟩ := hp.cop s hsm
  obtain ⟨c12, c3, c4⟩ := cop_parts hc
  have hnd := hp.nodup
  -- the state behind it
  have build : ∀ (v : DV) (rv : Value) (w' : World) (ρ' : Ren), (∀ t, s.op.dst = some t → t < env.length → env[t]? = some v) → VR ρ' v rv → Rel N w0 ρ' σ w' → ρ.le ρ' → Ext n0 ρ0 ww ρ' w' →
      (∀ id, ρ id = none → idf s.i ≠ some id → ρ' id = none) → RInv P ops st N w0 n0 ρ0 ww D0 env0 pre rest (listed.setIfInBounds s.i true) (a.put s.op.dst rv) w' ρ' env (gput M s.op.dst v) σ idf := by
    intro v rv w' ρ' hv hvr hrel hle hgrow hnone
    refine ⟨h.split, by simpa using h.size, closed_set h.closed hr, ?_, hrel, (h.envM.mono hle).put hvr _, by rw [gput_length]; exact h.lenM, h.len0, ?_, ?_, h.unw, ?_, ?_, h.idlt, h.inj, hgrow, h.n0le, ?_⟩
    · intro j hj
      by_cases hji : s.i = j
      · subst hji; exact List.mem_map_of_mem hs
      · rw [getD_set_ne false hji] at hj; exact h.sub j hj
    · intro t s' hs' hl hd
      by_cases hss : s'.i = s.i
      · have := same_i hnd (by rw [h.split]; simp [hs']) hsm hss
        subst this
        by_cases htl : t < M.length
        · rw [hd, gput_same htl, hv t hd (by rw [← h.lenM]; exact htl)]
        · have hm1 : (gput M s'.op.dst v).length ≤ t := by rw [gput_length]; exact Nat.le_of_not_lt htl
          have hm2 : env.length ≤ t := by rw [← h.lenM]; exact Nat.le_of_not_lt htl
          rw [List.getElem?_eq_none hm1, List.getElem?_eq_none hm2]
      · rw [gput_other (hp.dst s' (by rw [h.split]; simp [hs']) s hsm hss t hd)]
        exact h.mix1 t s' hs' ((isL_set_ne hss).1 hl) hd
    · intro t ht
      rw [gput_other (ht s hs (isL_set_self hlt))]
      refine h.mix0 t fun s' hs' hl => ht s' hs' ?_
      unfold isL at hl ⊢
      exact getD_set_true hl
    · intro p' s' q' hpre' hl
      have hss : s'.i ≠ s.i := by
        intro e
        have := same_i hnd (by rw [h.split, hpre']; simp) hsm e
        subst this
        exact hl (isL_set_self hlt)
      obtain ⟨ei', ⟨r1, r2⟩, r3, r4⟩ := h.pend p' s' q' hpre' (fun hh => hl ((isL_set_ne hss).2 hh))
      refine ⟨ei', ⟨r1, ?_⟩, r3, r4⟩
      rcases r2 with r2 | ⟨g1, g2 | g2 | ⟨k, obj, mk, id, k1, k0, k2, k3, k4, k5⟩⟩
      · exact .inl r2
      · exact .inr ⟨g1, .inl g2⟩
      · exact .inr ⟨g1, .inr (.inl g2)⟩
      · refine .inr ⟨g1, .inr (.inr ⟨k, obj, mk, id, k1, k0, k2, k3, k4, hnone id k5 ?_⟩)⟩
        exact h.inj s' (by rw [hpre']; simp) s hs hss id k0
    · intro s' hs' hl
      unfold isL
      exact getD_set_true (h.quiet s' hs' hl)
    · have := h.defs
      cases s.op.dst <;> exact this
  unfold wpOpIn
  simp only [ho]
  have hgon : gon M s.op.guard = gon ei s.op.guard := gon_agree hag
  have hargs : s.op.args.map (garg M) = s.op.args.map (garg ei) := args_agree hag
  have hmap : s.op.kind ≠ .bad → s.op.args.map (garg M) = (opArgs o).map (genv M) := fun hb => argsOf_map (c12 hb).2
  have hrr : ∀ x ∈ o.op.operands, VR ρ (genv M x) (a.eval x) := fun x _ => genv_sound h.envM x
  rcases hpend with ⟨g1, g2⟩ | ⟨g1, ⟨k, v, k1, k2, k3⟩ | ⟨k, v, k1, k2, k3⟩ | ⟨k, obj, mk, id, k1, k0, k2, k3, k4, k5⟩⟩
  · rw [gon_sound h.envM c4 (hgon.trans g1), if_neg (by simp)]
    refine ⟨about_true, ?_⟩
    rw [← c3]
    exact hnext _ _ ρ _ (build (.tuple []) undef w ρ g2 (by simp only [VR]; exact ⟨[], VRs.nil, rfl⟩) h.rel (Ren.le_refl _) h.grow (fun _ h _ => h))
  · rw [gon_sound h.envM c4 (hgon.trans g1), if_pos rfl]
    have hnb : s.op.kind ≠ .bad := by rw [k1]; intro e; cases e
    have c1 := (c12 hnb).1
    rw [k1] at c1
    rw [← hargs, hmap hnb, kind_no_call c1 (by intro f h; cases h)] at k2
    obtain ⟨rv, h1, h2⟩ := gpure_sound (kind_pure c1) hrr k2 w
    refine ⟨about_true, ?_⟩
    rw [Oper.semAt_eq _ _ _ (kind_no_defer c1), h1, Oper.uponIn_value, ← c3]
    exact hnext _ _ ρ _ (build v rv w ρ k3 h2 h.rel (Ren.le_refl _) h.grow (fun _ h _ => h))
  · rw [gon_sound h.envM c4 (hgon.trans g1), if_pos rfl]
    have hnb : s.op.kind ≠ .bad := by rw [k1]; intro e; cases e
    have c1 := (c12 hnb).1
    rw [k1] at c1
    rw [← hargs, hmap hnb, kind_no_call c1 (by intro f h; cases h)] at k2
    obtain ⟨rv, h1, h2⟩ := gload_sound (kind_load c1) hrr k2 h.rel
    refine ⟨about_true, ?_⟩
    rw [Oper.semAt_eq _ _ _ (kind_no_defer c1), h1, Oper.uponIn_value, ← c3]
    exact hnext _ _ ρ _ (build v rv w ρ k3 h2 h.rel (Ren.le_refl _) h.grow (fun _ h _ => h))
  · rw [gon_sound h.envM c4 (hgon.trans g1), if_pos rfl]
    have hnb : s.op.kind ≠ .bad := by rw [k1]; intro e; cases e
    have c1 := (c12 hnb).1
    rw [k1] at c1
    rw [← hargs, hmap hnb, kind_no_call c1 (by intro f h; cases h)] at k2
    obtain ⟨rv, o', off, ext, h1, h2, h3⟩ := galloc_sound (kind_new c1) hrr k2 h.rel k4 k5
    refine ⟨about_true, ?_⟩
    rw [Oper.semAt_eq _ _ _ (kind_no_defer c1), h1, Oper.uponIn_value, ← c3]
    refine hnext _ _ (ρ.put id ⟨w.heap.size, off, ext⟩) _ (build (mk id) rv _ _ k3 h3 h2 (Ren.le_put k5 _) (h.grow.trans (Ext.laid (h.idlt s hs id k0).2 _ _ _) (Nat.le_refl _)) (fun id' hid' hne => ?_))
    · rw [Ren.put_other]
      · exact hid'
      · intro e; subst e; exact hne k0
end
end Go.Gh
