/-
  Proved: enc's formulas of nets.
  Part 3 of 10. Conditions: none. A verified frame that runs compiled texts over a ghost heap, the contracts of the functions that the statement reaches, and the plain law.
-/
import Derived.Test.YtdpbcckkdccmlaaGreatXN2
namespace Go.Gh
open Go.RowKit
set_option linter.unusedVariables false
set_option linter.unusedSimpArgs false

theorem galloc_id {k : AK} {l : List DV} {obj : GObj} {mk : Nat → DV} (h : galloc k l = some (obj, mk)) (id : Nat) : (mk id).idOf = some id := by
  unfold galloc at h
  split at h
  · cases h; rfl
  · cases h; rfl
  · obtain ⟨cs, _, he⟩ := Option.map_eq_some_iff.1 h; cases he; rfl
  · obtain ⟨cs, _, he⟩ := Option.map_eq_some_iff.1 h; cases he; rfl
  · split at h
    · cases h; rfl
    · cases h
  · cases h; rfl
  · cases h
theorem grec_mem {g : GOp} : ∀ {l : List GOp} {env : Env} {σ σ' : GS}, grec l env σ σ' → g ∈ l → grec1 g env σ σ'
  | [], _, _, _, _, h => by cases h
  | x :: xs, _, _, _, h, hm => by
    rcases List.mem_cons.1 hm with rfl | hm
    · exact h.1
    · exact grec_mem h.2 hm

section
variable {P : Program} {ops : Array Oper} {st : List GStep} {N : Nat} {w0 : World} {n0 : Nat} {ρ0 : Ren} {ww : World} {D0 : List Deferred} {env0 : Env} {B : Nat → Nat → Bool}
variable {pre rest : List GStep} {listed : Array Bool} {a : Act} {w : World} {ρ : Ren} {env M : Env} {σ : GS} {idf : Nat → Option Nat}

/-- A loud operation: the ghost run and the world do it together. -/
theorem RInv.step (hp : PlanOk P ops B st) {s : GStep} (h : RInv P ops st N w0 n0 ρ0 ww D0 env0 pre (s :: rest) listed a w ρ env M σ idf) (hr : s.i ∈ Region.ready .any ops listed) (hloud : s.op.loud = true)
    {K : Env → GS → Prop} (hk : gsteps P (s :: rest) env σ K) {rd : Option Nat} {n : Nat} {Q : Exit → Act → World → Prop} {next : Act → World → Prop}
    (hnext : ∀ a' w' ρ' env' M' σ' idf', RInv P ops st N w0 n0 ρ0 ww D0 env0 (pre ++ [s]) rest (listed.setIfInBounds s.i true) a' w' ρ' env' M' σ' idf' → gsteps P rest env' σ' K → next a' w') : wpOpIn (FW rd) n P ops Q s.i next a w := by
  have hnd := hp.nodup
  have hsplit := h.split
  obtain ⟨hni, _⟩ := nodup_mid hnd hsplit
  have hsm : s ∈ st := by rw [hsplit]; simp
  have hpm : ∀ s' ∈ pre, s' ∈ st := fun s' hs' => by rw [hsplit]; simp [hs']
  obtain ⟨hnl, hlt⟩ := not_listed_of_ready hr
  obtain ⟨_, oo, hoo, hall⟩ := mem_ready.1 hr
  have hne : ∀ s' ∈ pre, s'.i ≠ s.i := fun s' hs' e => hni (e ▸ List.mem_map_of_mem hs')
  have hdst : ∀ s' ∈ pre, ∀ t, s'.op.dst = some t → s.op.dst ≠ some t := fun s' hs' t ht => hp.dst s' (hpm s' hs') s hsm (hne s' hs') t ht
  obtain ⟨o, ho, hc⟩ := hp.cop s hsm
  -- what it reads
  have hag : ∀ t ∈ s.op.reads, env[t]? = M[t]? := by
    intro t ht
    by_cases hw : ∃ s' ∈ pre, s'.op.dst = some t
    · obtain ⟨s', hs', hd⟩ := hw
      have hl : isL listed s' := by
        rcases hp.reads s hsm s' (hpm s' hs') t ht hd with e | e | e
        · exact absurd e (hne s' hs')
        · exact hp.listed h.closed s.i s'.i oo hoo hall e
        · obtain ⟨p1, q1, hp1⟩ := List.append_of_mem hs'
          have := hp.front (p := p1) (s := s') (q := q1 ++ s :: rest) (by rw [hsplit, hp1]; simp) e
          exact absurd (by rw [hp1]; simp at this ⊢; exact .inl this) hni
      exact (h.mix1 t s' hs' hl hd).symm
    · have hw' : ∀ s' ∈ pre, s'.op.dst ≠ some t := fun s' hs' hd => hw ⟨s', hs', hd⟩
      rw [h.unw t hw', h.mix0 t fun s' hs' _ => hw' s' hs']
  simp only [gsteps] at hk
  refine gop_sound ho hc h.envM h.rel (gop_agree hag hk) ?_
  intro v rv ρ' σ' w' q1 q2 q3 q4 ⟨q5, q6⟩
  have hene : ∀ s' ∈ pre, ∀ t, s'.op.dst = some t → (gput env s.op.dst v)[t]? = env[t]? := fun s' hs' t ht => gput_other (hdst s' hs' t ht)
  have hle := h.rel.le' q2
  have idfn : ∀ s' ∈ pre, (fun i => if i = s.i then none else idf i) s'.i = idf s'.i := fun s' hs' => by simp [hne s' hs']
  refine hnext _ _ ρ' (gput env s.op.dst v) (gput M s.op.dst v) σ' (fun i => if i = s.i then none else idf i) ⟨by rw [hsplit]; simp, by simpa using h.size, closed_set h.closed hr, ?_, q1, (h.envM.mono hle).put q4 _, by rw [gput_length, gput_length]; exact h.lenM, by rw [gput_length]; exact h.len0, ?_, ?_, ?_, ?_, ?_, ?_, ?_, h.grow.trans q2 h.n0le, by have := h.n0le; omega, ?_⟩ q6
  · intro j hj
    by_cases hji : s.i = j
    · subst hji; simp
    · rw [getD_set_ne false hji] at hj; simpa using .inl (by simpa using h.sub j hj)
  · intro t s' hs' hl hd
    simp only [List.mem_append, List.mem_singleton] at hs'
    rcases hs' with hs' | rfl
    · rw [hene s' hs' t hd, gput_other (hdst s' hs' t hd)]
      exact h.mix1 t s' hs' ((isL_set_ne (hne s' hs')).1 hl) hd
    · by_cases htl : t < M.length
      · rw [hd, gput_same htl, gput_same (by rw [← h.lenM]; exact htl)]
      · have hm1 : (gput M s'.op.dst v).length ≤ t := by rw [gput_length]; exact Nat.le_of_not_lt htl
        have hm2 : (gput env s'.op.dst v).length ≤ t := by rw [gput_length, ← h.lenM]; exact Nat.le_of_not_lt htl
        rw [List.getElem?_eq_none hm1, List.getElem?_eq_none hm2]
  · intro t ht
    rw [gput_other (ht s (by simp) (isL_set_self hlt))]
    refine h.mix0 t fun s' hs' hl => ht s' (by simp [hs']) ((isL_set_ne (hne s' hs')).2 hl)
  · intro t ht
    rw [gput_other (ht s (by simp))]
    exact h.unw t fun s' hs' => ht s' (by simp [hs'])
  · intro p s1 q hpq hl1
    rcases List.eq_nil_or_concat q with rfl | ⟨q', z, rfl⟩
    · have he : pre = p ∧ s = s1 := by
        have := List.append_inj' (s₁ := pre) (s₂ := p) (t₁ := [s]) (t₂ := [s1]) hpq rfl
        exact ⟨this.1, by simpa using this.2⟩
      obtain ⟨rfl, rfl⟩ := he
      exact absurd (isL_set_self hlt) hl1
    · rw [List.concat_eq_append] at hpq
      have he : pre = p ++ s1 :: q' ∧ s = z := by
        have := List.append_inj' (s₁ := pre) (s₂ := p ++ s1 :: q') (t₁ := [s]) (t₂ := [z]) (by rw [hpq]; simp) rfl
        exact ⟨this.1, by simpa using this.2⟩
      obtain ⟨hpre, rfl⟩ := he
      have hs1 : s1 ∈ pre := by rw [hpre]; simp
      have hs1m := hpm s1 hs1
      have hnl1 : ¬ isL listed s1 := fun hh => hl1 ((isL_set_ne (hne s1 hs1)).2 hh)
      obtain ⟨ei, ⟨hrange, hpend⟩, h1, h2⟩ := h.pend p s1 q' hpre hnl1
      have hkeep : ∀ u : DV, (∀ t, s1.op.dst = some t → t < env.length → env[t]? = some u) → ∀ t, s1.op.dst = some t → t < (gput env s.op.dst v).length → (gput env s.op.dst v)[t]? = some u := by
        intro u hu t ht hlt
        rw [hene s1 hs1 t ht]; exact hu t ht (by rwa [gput_length] at hlt)
      -- it does not come before the loud one
      have hnb : B s.i s1.i ≠ true := fun e => hnl1 (hp.listed h.closed s.i s1.i oo hoo hall e)
      have hst1 : st = p ++ s1 :: (q' ++ s :: rest) := by rw [hsplit, hpre]; simp
      -- what a watched one reads stays
      have hstay : s1.op.watch = true → ∀ t ∈ s1.op.reads, ei[t]? = (gput env s.op.dst v)[t]? := by
        intro hwt t ht
        by_cases hds : s.op.dst = some t
        · have e := hp.readsW s1 hs1m hwt s hsm t ht hds
          have := hp.front hst1 e
          exact absurd (by rw [hpre]; simp at this ⊢; exact .inl this) hni
        · rw [gput_other hds]
          by_cases hw : ∃ s' ∈ p, s'.op.dst = some t
          · obtain ⟨s', hs', hd⟩ := hw
            exact h1 t s' hs' hd
          · have hw' : ∀ s' ∈ p, s'.op.dst ≠ some t := fun s' hs' hd => hw ⟨s', hs', hd⟩
            rw [h2 t hw']
            refine (h.unw t fun s' hs' hd => ?_).symm
            have e := hp.readsW s1 hs1m hwt s' (hpm s' hs') t ht hd
            have := hp.front hst1 e
            obtain ⟨s2, hs2, hs2i⟩ := List.mem_map.1 this
            have : s2 = s' := same_i hnd (by rw [hst1]; simp [hs2]) (hpm s' hs') hs2i
            subst this
            exact hw' _ hs2 hd
      have hrec : s1.op.watch = true → grec1 s1.op (gput env s.op.dst v) σ σ' := by
        intro hwt
        rcases hp.re pre s rest hsplit hloud s1 hs1 hwt with e | e
        · exact absurd e hnb
        · exact grec_mem q5 e
      refine ⟨ei, ⟨?_, ?_⟩, fun t s' hs' ht => ?_, h2⟩
      · intro t ht hlt
        rw [hene s1 hs1 t ht]; exact hrange t ht (by rwa [gput_length] at hlt)
      · rw [if_neg (hne s1 hs1)]
        rcases hpend with ⟨g1, g2⟩ | ⟨g1, ⟨k, u, k1, k2, k3⟩ | ⟨k, u, k1, k2, k3⟩ | ⟨k, obj, mk, id, k1, k0, k2, k3, k4, k5⟩⟩
        · exact .inl ⟨g1, hkeep _ g2⟩
        · exact .inr ⟨g1, .inl ⟨k, u, k1, k2, hkeep _ k3⟩⟩
        · have hwt : s1.op.watch = true := by simp [GOp.watch, k1]
          have hrc := hrec hwt
          unfold grec1 at hrc
          rw [← gon_agree (hstay hwt), g1] at hrc
          simp only [k1] at hrc
          rw [← args_agree (hstay hwt), k2] at hrc
          exact .inr ⟨g1, .inr (.inl ⟨k, u, k1, hrc, hkeep _ k3⟩)⟩
        · have hwt : s1.op.watch = true := by simp [GOp.watch, k1]
          have hrc := hrec hwt
          unfold grec1 at hrc
          rw [← gon_agree (hstay hwt), g1] at hrc
          simp only [k1] at hrc
          cases hd1 : s1.op.dst with
          | none => simp [hd1] at hrc
          | some t =>
            simp only [hd1, Option.bind_some] at hrc
            rw [hene s1 hs1 t hd1] at hrc
            by_cases htl : t < env.length
            · rw [k3 t hd1 htl] at hrc
              simp only [Option.bind_some, galloc_id k2] at hrc
              refine .inr ⟨g1, .inr (.inr ⟨k, obj, mk, id, k1, k0, k2, ?_, by rw [hrc]; exact k4, ?_⟩)⟩
              · intro t' ht' hlt'; cases ht'
                rw [hene s1 hs1 t hd1]; exact k3 t hd1 htl
              · rw [q2.grow.keep id (h.idlt s1 hs1 id k0).1]; exact k5
            · rw [List.getElem?_eq_none (Nat.le_of_not_lt htl)] at hrc
              simp at hrc
      · rw [hene s' (by rw [hpre]; simp [hs']) t ht]; exact h1 t s' hs' ht
  · intro s' hs' hl
    simp only [List.mem_append, List.mem_singleton] at hs'
    rcases hs' with hs' | rfl
    · unfold isL; exact getD_set_true (h.quiet s' hs' hl)
    · exact isL_set_self hlt
  · intro s' hs' id hid'
    simp only [List.mem_append, List.mem_singleton] at hs'
    rcases hs' with hs' | rfl
    · rw [if_neg (hne s' hs')] at hid'; have := h.idlt s' hs' id hid'; omega
    · simp at hid'
  · intro s' hs' s'' hs'' hne' id hk1
    simp only [List.mem_append, List.mem_singleton] at hs' hs''
    rcases hs' with hs' | rfl
    · rw [if_neg (hne s' hs')] at hk1
      rcases hs'' with hs'' | rfl
      · rw [if_neg (hne s'' hs'')]; exact h.inj s' hs' s'' hs'' hne' id hk1
      · simp
    · simp at hk1
  · have := h.defs
    cases s.op.dst <;> exact this

/-- All that stands ahead of a loud operation is done ahead in the ghost run. -/
theorem RInv.ahead (hp : PlanOk P ops B st) {q : List GStep} : ∀ {pre rest : List GStep} {env : Env} {σ : GS} {idf : Nat → Option Nat} {K : Env → GS → Prop}, RInv P ops st N w0 n0 ρ0 ww D0 env0 pre (rest ++ q) listed a w ρ env M σ idf → (∀ s ∈ rest, s.op.loud = false) → gsteps P (rest ++ q) env σ K →
    ∃ env' σ' idf', RInv P ops st N w0 n0 ρ0 ww D0 env0 (pre ++ rest) q listed a w ρ env' M σ' idf' ∧ gsteps P q env' σ' K
  | pre, [], env, σ, idf, K, h, _, hk => ⟨env, σ, idf, by simpa using h, hk⟩
  | pre, s :: rest, env, σ, idf, K, h, hq, hk => by
    obtain ⟨env', σ', idf', h1, h2⟩ := RInv.advance hp h (hq s (by simp)) hk
    obtain ⟨env'', σ'', idf'', h3, h4⟩ := RInv.ahead hp h1 (fun s' hs' => hq s' (by simp [hs'])) h2
    exact ⟨env'', σ'', idf'', by simpa using h3, h4⟩

/-- **A region that draws its order: the ghost run's one order stands for all.** -/
theorem region_any (hp : PlanOk P ops B st) {K : Env → GS → Prop} {rd : Option Nat} {n : Nat} {Q : Exit → Act → World → Prop}
    (hQ : ∀ ρ' env' σ' a' w', Rel N w0 ρ' σ' w' → Ext n0 ρ0 ww ρ' w' → n0 ≤ σ'.length → EnvR ρ' env' a' → a'.defers = D0 → K env' σ' → Q .normal a' w') :
    ∀ (fuel : Nat) (pre rest : List GStep) (listed : Array Bool) (a : Act) (w : World) (ρ : Ren) (env M : Env) (σ : GS) (idf : Nat → Option Nat),
      (st.filter fun s => !listed.getD s.i false).length ≤ fuel → RInv P ops st N w0 n0 ρ0 ww D0 env0 pre rest listed a w ρ env M σ idf → gsteps P rest env σ K →
      wpAnyIn (FW rd) n P .any ops Q fuel listed a w := by
  -- where all is listed, the end is reached
  have fin : ∀ (pre rest : List GStep) (listed : Array Bool) (a : Act) (w : World) (ρ : Ren) (env M : Env) (σ : GS) (idf : Nat → Option Nat),
      RInv P ops st N w0 n0 ρ0 ww D0 env0 pre rest listed a w ρ env M σ idf → gsteps P rest env σ K → Region.ready .any ops listed = [] → Q .normal a w := by
    intro pre rest listed a w ρ env M σ idf h hk hr
    have hall : ∀ i, i < ops.size → listed.getD i false = true := by
      intro i
      induction i using Nat.strongRecOn with
      | _ i ih =>
        intro hi
        cases hl : listed.getD i false with
        | true => rfl
        | false =>
          exfalso
          have : i ∈ Region.ready .any ops listed := by
            refine mem_ready.2 ⟨?_, ops[i], by simp [hi], fun e he hb => ?_⟩
            · have : i < listed.size := by rw [h.size]; exact hi
              simp [this] at hl ⊢; exact hl
            · have := hp.low i ops[i] (by simp [hi]) e he hb
              exact ih e.on this (by omega)
          rw [hr] at this; cases this
    have hrest : rest = [] := by
      cases rest with
      | nil => rfl
      | cons s q =>
        exfalso
        obtain ⟨o, ho, _⟩ := hp.cop s (by rw [h.split]; simp)
        have := h.sub s.i (hall s.i (Array.getElem?_eq_some_iff.1 ho).1)
        exact (nodup_mid hp.nodup h.split).1 this
    subst hrest
    have hl : ∀ s ∈ pre, isL listed s := fun s hs => by
      obtain ⟨o, ho, _⟩ := hp.cop s (by rw [h.split]; simp [hs])
      exact hall s.i (Array.getElem?_eq_some_iff.1 ho).1
    have hM : M = env := by
      apply List.ext_getElem?
      intro t
      by_cases hw : ∃ s ∈ pre, s.op.dst = some t
      · obtain ⟨s, hs, hd⟩ := hw
        exact h.mix1 t s hs (hl s hs) hd
      · have hw' : ∀ s' ∈ pre, s'.op.dst ≠ some t := fun s' hs' hd => hw ⟨s', hs', hd⟩
        rw [h.mix0 t fun s' hs' _ => hw' s' hs', h.unw t hw']
    subst hM
    exact hQ ρ _ σ a w h.rel h.grow h.n0le h.envM h.defs hk
  intro fuel
  induction fuel with
  | zero =>
    intro pre rest listed a w ρ env M σ idf hf h hk
    have hr : Region.ready .any ops listed = [] := by
      apply List.eq_nil_iff_forall_not_mem.2
      intro i hi
      obtain ⟨h0, o, ho, _⟩ := mem_ready.1 hi
      have his : i < ops.size := (Array.getElem?_eq_some_iff.1 ho).1
      obtain ⟨s, hs, rfl⟩ := List.mem_map.1 (hp.all i his)
      have hm : s ∈ st.filter fun s => !listed.getD s.i false := by
        rw [List.mem_filter]
        have : s.i < listed.size := by rw [h.size]; exact his
        refine ⟨hs, ?_⟩
        simp [this] at h0 ⊢; exact h0
      have := List.length_pos_of_mem hm
      omega
    exact ⟨hr, fin pre rest listed a w ρ env M σ idf h hk hr⟩
  | succ fuel ih =>
    intro pre rest listed a w ρ env M σ idf hf h hk
    refine ⟨fin pre rest listed a w ρ env M σ idf h hk, fun i hi => ?_⟩
    obtain ⟨h0, o, ho, hall⟩ := mem_ready.1 hi
    have his : i < ops.size := (Array.getElem?_eq_some_iff.1 ho).1
    obtain ⟨s, hs, rfl⟩ := List.mem_map.1 (hp.all i his)
    have hfuel : (st.filter fun s' => !(listed.setIfInBounds s.i true).getD s'.i false).length ≤ fuel := by
      have h1 : (st.filter fun s' => !(listed.setIfInBounds s.i true).getD s'.i false) = (st.filter fun s' => !listed.getD s'.i false).filter fun s' => !(listed.setIfInBounds s.i true).getD s'.i false := by
        rw [List.filter_filter]
        apply List.filter_congr
        intro s' _
        by_cases hl : listed.getD s'.i false = true
        · rw [getD_set_true hl]; simp
        · simp at hl; simp [hl]
      have hm : s ∈ st.filter fun s' => !listed.getD s'.i false := by
        rw [List.mem_filter]
        have : s.i < listed.size := by rw [h.size]; exact his
        refine ⟨hs, ?_⟩
        simp [this] at h0 ⊢; exact h0
      have h2 : ((st.filter fun s' => !listed.getD s'.i false).filter fun s' => !(listed.setIfInBounds s.i true).getD s'.i false).length < (st.filter fun s' => !listed.getD s'.i false).length := by
        rw [List.length_filter_lt_length_iff_exists]
        refine ⟨s, hm, ?_⟩
        have : s.i < listed.size := by rw [h.size]; exact his
        simp [this]
      rw [← h1] at h2
      omega
    by_cases hsp : s ∈ pre
    · exact h.exec hp hsp hi fun a' w' ρ' M' h' => ih pre rest _ a' w' ρ' env M' σ idf hfuel h' hk
    · -- the ghost run comes to it
      have hsr : s ∈ rest := by
        have := hs
        rw [h.split] at this
        simp only [List.mem_append] at this
        exact this.resolve_left hsp
      obtain ⟨r1, r2, hr12⟩ := List.append_of_mem hsr
      have hquiet : ∀ s' ∈ r1, s'.op.loud = false := by
        intro s' hs'
        cases hl : s'.op.loud with
        | false => rfl
        | true =>
          exfalso
          obtain ⟨u1, u2, hu⟩ := List.append_of_mem hs'
          have hst : st = (pre ++ u1) ++ s' :: (u2 ++ s :: r2) := by rw [h.split, hr12, hu]; simp
          have hB := hp.imp (pre ++ u1) s' (u2 ++ s :: r2) hst hl s (by simp)
          have hli := hp.listed h.closed s.i s'.i o ho hall hB
          have := h.sub s'.i hli
          exact (nodup_mid hp.nodup hst).1 (by simp at this ⊢; exact .inl this)
      rw [hr12] at h hk
      obtain ⟨env', σ', idf', h1, h2⟩ := RInv.ahead hp h hquiet hk
      cases hl : s.op.loud with
      | false =>
        obtain ⟨env'', σ'', idf'', h3, h4⟩ := RInv.advance hp h1 hl h2
        exact h3.exec hp (by simp) hi fun a' w' ρ' M' h' => ih _ r2 _ a' w' ρ' env'' M' σ'' idf'' hfuel h' h4
      | true =>
        exact h1.step hp hi hl h2 fun a' w' ρ' env'' M' σ'' idf'' h' hk' => ih _ r2 _ a' w' ρ' env'' M' σ'' idf'' hfuel h' hk'
end
end Go.Gh
namespace Go.Gh
open Go.RowKit
set_option linter.unusedVariables false
set_option linter.unusedSimpArgs false

/-- Which operations come before which, by the edges (masks). -/
def befB (ops : Array Oper) (masks : Array Nat) (j i : Nat) : Bool := decide (i < ops.size) && (masks.getD j 0).testBit i
def copAll (P : Program) (ops : Array Oper) : List Oper → Option (List GOp)
  | [] => some []
  | o :: os => match copOf P ops o, copAll P ops os with
    | some g, some gs => some (g :: gs)
    | _, _ => none
def buildSteps (B : Nat → Nat → Bool) : List GStep → List (Nat × GOp) → List GStep
  | _, [] => []
  | pre, (i, g) :: l =>
    let s : GStep := ⟨i, g, if g.loud then (pre.filter fun s' => s'.op.watch && !B i s'.i).map (·.op) else []⟩
    s :: buildSteps B (pre ++ [s]) l
/-- An order: quiet operations as early as they can be. -/
def mkOrder (ops : Array Oper) (loud : List Bool) : Nat → List Nat → List Nat → List Nat
  | 0, _, acc => acc.reverse
  | n + 1, left, acc =>
    let ready := left.filter fun i => ((ops[i]?).map (·.after.all fun e => !Region.binds .any e || !left.contains e.on)).getD false
    match (match ready.find? (fun i => !loud.getD i true) with | some i => some i | none => ready.head?) with
    | some i => mkOrder ops loud n (left.filter (· != i)) (i :: acc)
    | none => acc.reverse
def lowB (ops : Array Oper) : Bool := (List.range ops.size).all fun j => match ops[j]? with
  | some o => o.after.all fun e => !Region.binds .any e || e.on < j
  | none => true
def closeB (ops : Array Oper) (masks : Array Nat) : Bool := (List.range ops.size).all fun j => match ops[j]? with
  | some o => (List.range ops.size).all fun i => !befB ops masks j i || o.after.any fun e => Region.binds .any e && (e.on == i || befB ops masks e.on i)
  | none => true
def topoB (ops : Array Oper) (B : Nat → Nat → Bool) : List Nat → List GStep → Bool
  | _, [] => true
  | pre, s :: q => (match ops[s.i]? with | some o => o.after.all fun e => !Region.binds .any e || pre.contains e.on | none => false) &&
      (!s.op.loud || q.all fun s' => B s'.i s.i) && !pre.contains s.i && topoB ops B (s.i :: pre) q
def dstB (st : List GStep) : Bool := st.all fun s => st.all fun s' => s.i == s'.i || match s.op.dst with | some t => s'.op.dst != some t | none => true
def readsB (B : Nat → Nat → Bool) (st : List GStep) : Bool := st.all fun s => s.op.reads.all fun t => st.all fun s' => s'.op.dst != some t || (if s.op.watch then B s.i s'.i else (s'.i == s.i || B s.i s'.i || B s'.i s.i))
def pick2 (gs : List GOp) : List Nat → Option (List (Nat × GOp))
  | [] => some []
  | i :: is => match gs[i]?, pick2 gs is with
    | some g, some l => some ((i, g) :: l)
    | _, _ => none
def planOf (P : Program) (ops : Array Oper) : Option (List GStep) :=
  match copAll P ops ops.toList with
  | none => none
  | some gs =>
    let masks := Region.before ops
    match pick2 gs (mkOrder ops (gs.map (·.loud)) ops.size (List.range ops.size) []) with
    | none => none
    | some l =>
      let st := buildSteps (befB ops masks) [] l
      if lowB ops && closeB ops masks && topoB ops (befB ops masks) [] st && dstB st && readsB (befB ops masks) st && (List.range ops.size).all (fun i => (st.map (·.i)).contains i) && decide (st.length ≤ ops.size) then some st else none

theorem copAll_get {P : Program} {ops : Array Oper} : ∀ {l : List Oper} {gs : List GOp}, copAll P ops l = some gs → ∀ {i : Nat} {g : GOp}, gs[i]? = some g → ∃ o, l[i]? = some o ∧ copOf P ops o = some g
  | [], gs, h, i, g, hg => by simp [copAll] at h; subst h; simp at hg
  | o :: os, gs, h, i, g, hg => by
    simp only [copAll] at h
    split at h
    · rename_i g' gs' h1 h2
      cases h
      cases i with
      | zero => simp at hg; subst hg; exact ⟨o, rfl, h1⟩
      | succ i => simp at hg; simpa using copAll_get h2 hg
    · cases h
theorem pick2_mem {gs : List GOp} : ∀ {is : List Nat} {l : List (Nat × GOp)}, pick2 gs is = some l → ∀ p ∈ l, gs[p.1]? = some p.2
  | [], l, h, p, hp => by simp [pick2] at h; subst h; cases hp
  | i :: is, l, h, p, hp => by
    simp only [pick2] at h
    split at h
    · rename_i g l' h1 h2
      cases h
      rcases List.mem_cons.1 hp with rfl | hp
      · exact h1
      · exact pick2_mem h2 p hp
    · cases h
theorem buildSteps_mem {B : Nat → Nat → Bool} : ∀ {l : List (Nat × GOp)} {pre : List GStep}, ∀ s ∈ buildSteps B pre l, (s.i, s.op) ∈ l
  | [], pre, s, hs => by simp [buildSteps] at hs
  | (i, g) :: l, pre, s, hs => by
    simp only [buildSteps, List.mem_cons] at hs
    rcases hs with rfl | hs
    · simp
    · exact List.mem_cons_of_mem _ (buildSteps_mem s hs)
theorem buildSteps_re {B : Nat → Nat → Bool} : ∀ {l : List (Nat × GOp)} {pre : List GStep} {p : List GStep} {s : GStep} {q : List GStep}, buildSteps B pre l = p ++ s :: q → s.op.loud = true → ∀ s' ∈ pre ++ p, s'.op.watch = true → B s.i s'.i = true ∨ s'.op ∈ s.re
  | [], pre, p, s, q, h, _, _, _, _ => by simp [buildSteps] at h
  | (i, g) :: l, pre, p, s, q, h, hl, s', hs', hw => by
    simp only [buildSteps] at h
    cases p with
    | nil =>
      simp only [List.nil_append, List.cons.injEq] at h
      obtain ⟨rfl, _⟩ := h
      simp only at hl
      simp only [hl, if_true, List.append_nil] at hs' ⊢
      cases hb : B i s'.i with
      | true => exact .inl rfl
      | false => exact .inr (List.mem_map.2 ⟨s', List.mem_filter.2 ⟨hs', by simp [hw, hb]⟩, rfl⟩)
    | cons z p' =>
      simp only [List.cons_append, List.cons.injEq] at h
      obtain ⟨rfl, h⟩ := h
      exact buildSteps_re h hl s' (by simpa using hs') hw
theorem topoB_spec {ops : Array Oper} {B : Nat → Nat → Bool} : ∀ {st : List GStep} {pre : List Nat}, topoB ops B pre st = true → ∀ p s q, st = p ++ s :: q →
    (∀ o, ops[s.i]? = some o → ∀ e ∈ o.after, Region.binds .any e = true → e.on ∈ p.map (·.i) ∨ e.on ∈ pre) ∧ (s.op.loud = true → ∀ s' ∈ q, B s'.i s.i = true) ∧ s.i ∉ pre ∧ s.i ∉ p.map (·.i)
  | [], pre, h, p, s, q, hst => by simp at hst
  | x :: st, pre, h, p, s, q, hst => by
    simp only [topoB, Bool.and_eq_true] at h
    obtain ⟨⟨⟨h1, h2⟩, h3⟩, h4⟩ := h
    cases p with
    | nil =>
      simp only [List.nil_append, List.cons.injEq] at hst
      obtain ⟨rfl, rfl⟩ := hst
      refine ⟨fun o ho e he hb => ?_, fun hl s' hs' => ?_, by simpa using h3, by simp⟩
      · rw [ho] at h1
        simp only [Array.all_eq_true'] at h1
        have := h1 e he
        simp [hb] at this
        exact .inr this
      · simp [hl] at h2
        exact h2 s' hs'
    | cons y p' =>
      simp only [List.cons_append, List.cons.injEq] at hst
      obtain ⟨rfl, hst⟩ := hst
      obtain ⟨k1, k2, k3, k4⟩ := topoB_spec h4 p' s q hst
      refine ⟨fun o ho e he hb => ?_, k2, fun hm => k3 (by simp [hm]), fun hm => ?_⟩
      · rcases k1 o ho e he hb with hh | hh
        · exact .inl (by simp at hh ⊢; exact .inr hh)
        · simp at hh
          rcases hh with hh | hh
          · exact .inl (by simp [hh])
          · exact .inr hh
      · simp only [List.map_cons, List.mem_cons] at hm
        rcases hm with hm | hm
        · exact k3 (by simp [hm])
        · exact k4 hm
theorem nodup_of_splits : ∀ {l : List Nat}, (∀ p s q, l = p ++ s :: q → s ∉ p) → l.Nodup := by
  intro l h
  rw [List.nodup_iff_pairwise_ne]
  rw [List.pairwise_iff_getElem]
  intro i j hi hj hij e
  have hs : l = l.take j ++ l[j] :: l.drop (j + 1) := by simp
  refine h _ _ _ hs ?_
  rw [← e]
  rw [List.mem_take_iff_getElem]
  exact ⟨i, by omega, rfl⟩

theorem planOf_ok {P : Program} {ops : Array Oper} {st : List GStep} (h : planOf P ops = some st) : PlanOk P ops (befB ops (Region.before ops)) st := by
  unfold planOf at h
  split at h
  · cases h
  · rename_i gs hgs
    simp only at h
    split at h
    · cases h
    · rename_i l hl
      split at h
      · rename_i hc
        simp only [Option.some.injEq] at h
        simp only [Bool.and_eq_true] at hc
        obtain ⟨⟨⟨⟨⟨⟨h1, h2⟩, h3⟩, h4⟩, h5⟩, h6⟩, h7⟩ := hc
        rw [h] at h3 h4 h5 h6 h7
        have hmem : ∀ s ∈ st, gs[s.i]? = some s.op := fun s hs => pick2_mem hl _ (buildSteps_mem s (by rw [h]; exact hs))
        have hT := topoB_spec h3
        refine ⟨?_, ?_, of_decide_eq_true h7, ?_, ?_, ?_, ?_, ?_, ?_, ?_, ?_, ?_⟩
        · refine nodup_of_splits fun p s q he => ?_
          obtain ⟨p', t, rfl, hp, ht⟩ := List.map_eq_append_iff.1 he
          obtain ⟨s', q', rfl, hs', hq'⟩ := List.map_eq_cons_iff.1 ht
          rw [← hp, ← hs']
          exact (hT p' s' q' rfl).2.2.2
        · intro i hi
          simp only [List.all_eq_true, List.mem_range, List.contains_iff_mem] at h6
          exact h6 i hi
        · intro s hs
          obtain ⟨o, ho, hc⟩ := copAll_get hgs (hmem s hs)
          exact ⟨o, by simpa using ho, hc⟩
        · intro j o ho e he hb
          have hj : j < ops.size := (Array.getElem?_eq_some_iff.1 ho).1
          simp only [lowB, List.all_eq_true, List.mem_range] at h1
          have := h1 j hj
          rw [ho] at this
          simp only [Array.all_eq_true'] at this
          have := this e he
          simp [hb] at this
          exact this
        · intro j i o ho hb
          have hj : j < ops.size := (Array.getElem?_eq_some_iff.1 ho).1
          simp only [closeB, List.all_eq_true, List.mem_range] at h2
          have := h2 j hj
          rw [ho] at this
          simp only [List.all_eq_true, List.mem_range] at this
          have hi : i < ops.size := by simp [befB] at hb; exact hb.1
          have := this i hi
          simp only [hb, Bool.not_true, Bool.false_or, Array.any_eq_true'] at this
          obtain ⟨e, he, hee⟩ := this
          simp only [Bool.and_eq_true, Bool.or_eq_true, beq_iff_eq] at hee
          exact ⟨e, he, hee.1, hee.2⟩
        · intro p s q hs o ho e he hb
          rcases (hT p s q hs).1 o ho e he hb with hh | hh
          · exact hh
          · cases hh
        · intro p s q hs hl' s' hs'
          exact (hT p s q hs).2.1 hl' s' hs'
        · intro p s q hs hl' s' hs' hw
          exact buildSteps_re (pre := []) (h.trans hs) hl' s' (by simpa using hs') hw
        · intro s hs s' hs' hne t ht
          simp only [dstB, List.all_eq_true] at h4
          have := h4 s hs s' hs'
          simp [hne, ht] at this
          exact this
        · intro s hs s' hs' t ht hd
          simp only [readsB, List.all_eq_true] at h5
          have := h5 s hs t ht s' hs'
          simp only [hd, bne_self_eq_false, Bool.false_or] at this
          split at this
          · exact .inr (.inl this)
          · simp only [Bool.or_eq_true, beq_iff_eq] at this
            rcases this with (hh | hh) | hh
            · exact .inl hh
            · exact .inr (.inl hh)
            · exact .inr (.inr hh)
        · intro s hs hw s' hs' t ht hd
          simp only [readsB, List.all_eq_true] at h5
          have := h5 s hs t ht s' hs'
          simp only [hd, bne_self_eq_false, Bool.false_or, hw, if_true] at this
          exact this
      · cases h
end Go.Gh
namespace Go.Gh
open Go.RowKit
set_option linter.unusedVariables false
set_option linter.unusedSimpArgs false

/-- The ghost program of a function's text. -/
inductive GCode where
  | skip
  | seq (a b : GCode)
  | region (st : List GStep)
  | cond (c : GArg) (a b : GCode)
  | block (id : Nat) (c : GCode)
  | loop (c : GCode)
  | exit (id : Nat)
  | ret
  | rangeF (f : GArg) (ps : List Tmp) (asg body : Code)
  | bad

def seqSteps : List GOp → List GStep := List.map fun g => ⟨0, g, []⟩
def comp (P : Program) : Code → Option GCode
  | .skip => some .skip
  | .label _ => some .skip
  | .region _ ops draw => if draw then (planOf P ops).map .region else (copAll P ops ops.toList).map fun gs => .region (seqSteps gs)
  | .seq a b => match comp P a, comp P b with
    | some x, some y => some (.seq x y)
    | _, _ => none
  | .cond c a b => match argOf c, comp P a, comp P b with
    | some c, some x, some y => some (.cond c x y)
    | _, _, _ => none
  | .block id c => (comp P c).map (.block id)
  | .loop c => (comp P c).map .loop
  | .exit id => some (.exit id)
  | .ret => some .ret
  | .rangeFunc f ps asg body => (argOf f).map fun a => .rangeF a ps.toList asg body
  | _ => some .bad

/-- A state that is known less. -/
def Env.le (e1 e : List DV) : Prop := e1.length = e.length ∧ ∀ t : Nat, e1[t]? = e[t]? ∨ e1[t]? = some DV.any

/-- Behind the iterator's call: how the loop was left. -/
def grange (id : Nat) (env : Env) (Q : Exit → Env → GS → Prop) (σ : GS) : Prop :=
  ∃ lg, σ[id]? = some (.loop lg) ∧ lg.st ≠ .busy ∧ match lg.pend with
    | none => Q .normal env (σ.set id (.loop { lg with st := .exhausted }))
    | some .ret => Q .ret env (σ.set id (.loop { lg with st := .exhausted }))
    | some (.exit i) => Q (.exit i) env (σ.set id (.loop { lg with st := .exhausted }))
    | _ => False
theorem grange_mono {id : Nat} {env : Env} {Q Q' : Exit → Env → GS → Prop} {σ : GS} (h : grange id env Q σ) (hq : ∀ x e s, Q x e s → Q' x e s) : grange id env Q' σ := by
  obtain ⟨lg, h1, h2, h3⟩ := h
  refine ⟨lg, h1, h2, ?_⟩
  split at h3
  · exact hq _ _ _ h3
  · exact hq _ _ _ h3
  · exact hq _ _ _ h3
  · exact h3.elim

def gexec (P : Program) : GCode → Env → GS → (Exit → Env → GS → Prop) → Prop
  | .skip, env, σ, Q => Q .normal env σ
  | .seq a b, env, σ, Q => gexec P a env σ fun e env' σ' => match e with | .normal => gexec P b env' σ' Q | e => Q e env' σ'
  | .region st, env, σ, Q => gsteps P st env σ (Q .normal)
  | .cond c a b, env, σ, Q => match garg env c with
    | .bool true => gexec P a env σ Q
    | .bool false => gexec P b env σ Q
    | _ => False
  | .block id c, env, σ, Q => gexec P c env σ fun e env' σ' => match e with | .exit i => if i = id then Q .normal env' σ' else Q (.exit i) env' σ' | e => Q e env' σ'
  | .loop c, env, σ, Q => ∃ I : Nat → Env → GS → Prop, (∃ n e1, Env.le e1 env ∧ I n e1 σ) ∧
      ∀ n env σ, I n env σ → gexec P c env σ fun e env' σ' => match e with | .normal => ∃ m e1, m < n ∧ Env.le e1 env' ∧ I m e1 σ' | e => Q e env' σ'
  | .exit id, env, σ, Q => Q (.exit id) env σ
  | .ret, env, σ, Q => Q .ret env σ
  | .rangeF f ps asg body, env, σ, Q => match garg env f with
    | .func bf first caps => GCall P bf (first ++ [.yield σ.length] ++ caps) (σ ++ [.loop ⟨env, ps, asg, body, .ready, none⟩]) fun _ σ' => grange σ.length env Q σ'
    | _ => False
  | .bad, _, _, _ => False

theorem gdo_mono {P : Program} {k : Kind} {args : List DV} {σ : GS} {K K' : DV → GS → Prop} (h : gdo P k args σ K) (hk : ∀ v σ', K v σ' → K' v σ') : gdo P k args σ K' := by
  cases k <;> simp only [gdo] at h ⊢
  case call f => exact h.mono hk
  case xcall f => exact h.mono hk
  case callv =>
    split at h
    · exact h.mono hk
    · exact GRound.mono h hk
    · exact h.elim
  case mnext => exact gnext_mono h hk
  case eqn n => exact geqn_mono h fun v hv => hk v _ hv
  all_goals
    split at h
    · exact hk _ _ h
    · exact h.elim
theorem gop_mono {P : Program} {o : GOp} {env : Env} {σ : GS} {K K' : DV → GS → Prop} (h : gop P o env σ K) (hk : ∀ v σ', K v σ' → K' v σ') : gop P o env σ K' := by
  unfold gop at h ⊢
  split at h
  · rename_i hon; exact gdo_mono h hk
  · exact hk _ _ h
  · exact h.elim
theorem gsteps_mono {P : Program} : ∀ {st : List GStep} {env : Env} {σ : GS} {K K' : Env → GS → Prop}, gsteps P st env σ K → (∀ e s, K e s → K' e s) → gsteps P st env σ K'
  | [], env, σ, K, K', h, hk => hk _ _ h
  | s :: rest, env, σ, K, K', h, hk => gop_mono h fun v σ' ⟨a, b⟩ => ⟨a, gsteps_mono b hk⟩
theorem gexec_mono {P : Program} : ∀ {c : GCode} {env : Env} {σ : GS} {Q Q' : Exit → Env → GS → Prop}, gexec P c env σ Q → (∀ x e s, Q x e s → Q' x e s) → gexec P c env σ Q'
  | .skip, _, _, _, _, h, hq => hq _ _ _ h
  | .seq a b, _, _, _, _, h, hq => by
    simp only [gexec] at h ⊢
    refine gexec_mono h fun x e s hh => ?_
    cases x <;> first | exact gexec_mono hh hq | exact hq _ _ _ hh
  | .region st, _, _, _, _, h, hq => gsteps_mono h fun e s => hq _ e s
  | .cond c a b, _, _, _, _, h, hq => by
    simp only [gexec] at h ⊢
    split at h
    · exact gexec_mono h hq
    · exact gexec_mono h hq
    · exact h.elim
  | .block id c, _, _, _, _, h, hq => by
    simp only [gexec] at h ⊢
    refine gexec_mono h fun x e s hh => ?_
    cases x <;> simp only at hh ⊢
    case exit i =>
      split at hh
      · rename_i hi; rw [if_pos hi]; exact hq _ _ _ hh
      · rename_i hi; rw [if_neg hi]; exact hq _ _ _ hh
    all_goals exact hq _ _ _ hh
  | .loop c, _, _, _, _, h, hq => by
    simp only [gexec] at h ⊢
    obtain ⟨I, h0, h1⟩ := h
    refine ⟨I, h0, fun n env σ hi => gexec_mono (h1 n env σ hi) fun x e s hh => ?_⟩
    cases x <;> first | exact hh | exact hq _ _ _ hh
  | .exit id, _, _, _, _, h, hq => hq _ _ _ h
  | .ret, _, _, _, _, h, hq => hq _ _ _ h
  | .rangeF f ps asg body, _, _, _, _, h, hq => by
    simp only [gexec] at h ⊢
    split at h
    · exact h.mono fun v σ' hh => grange_mono hh hq
    · exact h.elim
  | .bad, _, _, _, _, h, _ => h.elim

/-- The marks of loops over iterators, among the deferred calls: their blocks are no ghost objects'. -/
def markOf (r : Nat) : Deferred := { target := .collected r, args := #[] }
def DefOk (n : Nat) (ρ : Ren) (w : World) (ds : List Deferred) : Prop :=
  ∃ rs : List Nat, ds = rs.map markOf ∧ rs.Nodup ∧ ∀ r ∈ rs, n ≤ r ∧ w.heap[r]? = some (.deferred (some [])) ∧ ∀ i M, ρ i = some M → M.blk ≠ r
theorem DefOk.ext {n m : Nat} {ρ ρ' : Ren} {w w' : World} {ds : List Deferred} (h : DefOk n ρ w ds) (k : Ext m ρ w ρ' w') : DefOk n ρ' w' ds := by
  obtain ⟨rs, h1, h2, h3⟩ := h
  refine ⟨rs, h1, h2, fun r hr => ?_⟩
  obtain ⟨h4, h5, h6⟩ := h3 r hr
  have hlt : r < w.heap.size := (Array.getElem?_eq_some_iff.1 h5).1
  refine ⟨h4, by rw [k.frame r hlt h6]; exact h5, fun i M hM => ?_⟩
  rcases k.new i M hM with ⟨j, M', h7, h8⟩ | h7
  · rw [← h8]; exact h6 j M' h7
  · omega
/-- The round that a piece of text is walked in, if any, has its record. -/
def RdOk (rd : Option Nat) (w : World) : Prop := ∀ l, rd = some l → ∃ r, w.heap[l]? = some (.loop r)
theorem RdOk.ext {rd : Option Nat} {m : Nat} {ρ ρ' : Ren} {w w' : World} (h : RdOk rd w) (k : Ext m ρ w ρ' w') : RdOk rd w' := fun l hl =>
  let ⟨r, hr⟩ := h l hl; let ⟨r', h1, _⟩ := k.loops l r hr; ⟨r', h1⟩

/-- What holds in the ghost run holds of the world that goes with it. -/
def Lift (N : Nat) (w0 : World) (n0 : Nat) (ρ0 : Ren) (ww : World) (Q : Exit → Env → GS → Prop) (e : Exit) (a : Act) (w : World) : Prop :=
  ∃ ρ env σ, Rel N w0 ρ σ w ∧ Ext n0 ρ0 ww ρ w ∧ n0 ≤ σ.length ∧ EnvR ρ env a ∧ DefOk ww.heap.size ρ w a.defers ∧ Q e env σ ∧ (e = .normal ∨ e = .ret ∨ ∃ id, e = .exit id)

section
variable {P : Program} {N : Nat} {w0 : World} {ρ : Ren} {σ : GS} {w : World}

theorem least {p : Nat → Prop} (h : ∃ n, p n) : ∃ n, p n ∧ ∀ m, p m → n ≤ m := by
  obtain ⟨n, hn⟩ := h
  induction n using Nat.strongRecOn with
  | _ n ih =>
    by_cases hs : ∃ m, m < n ∧ p m
    · obtain ⟨m, hm, hp⟩ := hs; exact ih m hm hp
    · exact ⟨n, hn, fun m hp => Nat.le_of_not_lt fun hlt => hs ⟨m, hlt, hp⟩⟩
theorem wpIn_loopN {F : Fence} {m : Nat} {Q : Exit → Act → World → Prop} {a : Act} {w : World} {c : Code} (I : Nat → Act → World → Prop) {n : Nat} (h0 : I n a w)
    (round : ∀ n a w, I n a w → c.wpIn F m P (Exit.then (fun a' w' => ∃ k, k < n ∧ I k a' w') Q) a w) : (Code.loop c).wpIn F m P Q a w := by
  have hμ : ∃ μ : Act → World → Nat, ∀ a w, (∃ n, I n a w) → I (μ a w) a w ∧ ∀ k, I k a w → μ a w ≤ k := by
    classical
    refine ⟨fun a w => if h : ∃ n, I n a w then Classical.choose (least h) else 0, fun a w h => ?_⟩
    simp only [dif_pos h]
    exact Classical.choose_spec (least h)
  obtain ⟨μ, hμ⟩ := hμ
  refine wpIn_loop (fun a w => ∃ n, I n a w) μ ⟨n, h0⟩ fun a w hi => ?_
  refine wpIn_mono (round _ a w (hμ a w hi).1) fun e a' w' hq => ?_
  cases e <;> try exact hq
  obtain ⟨k, hk, hI⟩ := hq
  exact ⟨⟨k, hI⟩, Nat.lt_of_le_of_lt ((hμ a' w' ⟨k, hI⟩).2 k hI) hk⟩

theorem EnvR.le {e1 env : Env} {a : Act} (h : EnvR ρ env a) (k : Env.le e1 env) : EnvR ρ e1 a := by
  have hl := VRs.length h
  refine VRs.mk (by rw [hl]; exact k.1.symm) fun t x hx => ?_
  rcases k.2 t with e | e
  · rw [e] at hx; exact VRs.get h hx
  · rw [hx] at e; cases e
    have ht : t < e1.length := by
      rcases Nat.lt_or_ge t e1.length with h' | h'
      · exact h'
      · rw [List.getElem?_eq_none h'] at hx; cases hx
    have : t < a.tmps.toList.length := by rw [hl, ← k.1]; exact ht
    exact ⟨a.tmps.toList[t], by simp [this], by simp [VR]⟩

/-- A region in the order of its text. -/
theorem region_seq {ops : Array Oper} {rd : Option Nat} {n : Nat} {Q : Exit → Act → World → Prop} {D0 : List Deferred} {n0 : Nat} {ρ0 : Ren} {ww : World} {K : Env → GS → Prop}
    (hQ : ∀ ρ' env' σ' a' w', Rel N w0 ρ' σ' w' → Ext n0 ρ0 ww ρ' w' → n0 ≤ σ'.length → EnvR ρ' env' a' → a'.defers = D0 → K env' σ' → Q .normal a' w') :
    ∀ (l : List Oper) (k : Nat) (gs : List GOp) (env : Env) (σ : GS) (ρ : Ren) (a : Act) (w : World), (∀ i : Nat, l[i]? = ops[k + i]?) → copAll P ops l = some gs → Rel N w0 ρ σ w → Ext n0 ρ0 ww ρ w → n0 ≤ σ.length → EnvR ρ env a → a.defers = D0 → gsteps P (seqSteps gs) env σ K →
      wpOpsIn (FW rd) n P ops Q (List.range' k l.length) a w
  | [], k, gs, env, σ, ρ, a, w, hl, hc, hrel, hg, hn, he, hd, hk => by
    simp [copAll] at hc; subst hc
    exact hQ ρ env σ a w hrel hg hn he hd hk
  | o :: l, k, gs, env, σ, ρ, a, w, hl, hc, hrel, hg, hn, he, hd, hk => by
    simp only [copAll] at hc
    split at hc
    · rename_i g gs' h1 h2
      cases hc
      have ho : ops[k]? = some o := by have := hl 0; simpa using this.symm
      rw [List.length_cons, List.range'_succ, wpOpsIn_cons]
      simp only [seqSteps, List.map_cons, gsteps] at hk
      refine gop_sound ho h1 he hrel hk fun v rv ρ' σ' w' q1 q2 q3 q4 q5 => ?_
      refine region_seq hQ l (k + 1) gs' _ σ' ρ' _ w' (fun i => ?_) h2 q1 (hg.trans q2 hn) (by omega) ((he.mono (hrel.le' q2)).put q4 _) ?_ q5.2
      · have := hl (i + 1); rw [show k + 1 + i = k + (i + 1) by omega]; simpa using this
      · rw [← hd]; cases g.dst <;> rfl
    · cases hc

/-- Entering a loop over an iterator: what is laid. -/
theorem enter_run (hrel : Rel N w0 ρ σ w) {rd : Option Nat} (hrd : RdOk rd w) {ww : World} {n0 : Nat} {ρ0 : Ren} (hg : Ext n0 ρ0 ww ρ w) (hn : n0 ≤ σ.length) {ds : List Deferred} (hd : DefOk ww.heap.size ρ w ds) (fn : FuncId) (tmps : Array Value) (ps : Array Tmp) (asg body : Code) {env : Env} (he : VRs ρ env tmps.toList) :
    ∃ (l : Nat) (mark : List Deferred) (w1 : World), (Instr.enterLoop fn tmps ps asg body rd).run P w = .ok (l, mark) w1 ∧
      Rel N w0 (ρ.put σ.length ⟨l, 0, 0⟩) (σ ++ [.loop ⟨env, ps.toList, asg, body, .ready, none⟩]) w1 ∧ Ext n0 ρ0 ww (ρ.put σ.length ⟨l, 0, 0⟩) w1 ∧ DefOk ww.heap.size (ρ.put σ.length ⟨l, 0, 0⟩) w1 (mark ++ ds) := by
  have hnone := hrel.none_at (Nat.le_refl σ.length)
  have loopR : ∀ D, LoopR ρ ⟨env, ps.toList, asg, body, .ready, none⟩ { state := .ready, pending := none, fn, tmps, params := ps, assign := asg, body := body, defers := D } := fun D => ⟨he, rfl, rfl, rfl, rfl, rfl⟩
  cases rd with
  | none =>
    have hj := (hrel.junk (.deferred (some []))).ghosts [.loop ⟨env, ps.toList, asg, body, .ready, none⟩]
    have hl := hj.lay_obj (id := σ.length) (o := .loop ⟨env, ps.toList, asg, body, .ready, none⟩) (by simp) hnone rfl ⟨{ state := .ready, pending := none, fn, tmps, params := ps, assign := asg, body := body, defers := w.heap.size }, rfl, loopR _⟩
    have e1 : Ext σ.length ρ w ρ (w.alloc (.deferred (some []))) := Ext.junk _
    have e2 := Ext.laid (n := σ.length) (ρ := ρ) (w := w.alloc (.deferred (some []))) (Nat.le_refl σ.length) 0 0 (.loop { state := .ready, pending := none, fn, tmps, params := ps, assign := asg, body := body, defers := w.heap.size })
    refine ⟨_, [markOf w.heap.size], _, ?_, hl, (hg.trans e1 hn).trans e2 hn, ?_⟩
    · simp only [Instr.enterLoop, Sem.run_bind, run_newObj, Result.andThen_ok, Sem.run_pure]
      rfl
    · have hd2 := (hd.ext e1).ext e2
      obtain ⟨rs, h1, h2, h3⟩ := hd
      refine ⟨w.heap.size :: rs, by simp [h1, markOf], ?_, ?_⟩
      · refine List.nodup_cons.2 ⟨fun hm => ?_, h2⟩
        have := (Array.getElem?_eq_some_iff.1 (h3 _ hm).2.1).1
        omega
      · intro r hr
        rcases List.mem_cons.1 hr with rfl | hr
        · refine ⟨hg.size, ?_, fun i M hM => ?_⟩
          · rw [Below.heap_alloc _ _ _ (by simp)]; exact alloc_new w _
          · by_cases hi : i = σ.length
            · subst hi; rw [Ren.put_same] at hM; cases hM; simp
            · rw [Ren.put_other _ _ hi] at hM; have := hrel.lt i M hM; omega
        · obtain ⟨rs', k1, k2, k3⟩ := hd2
          have : rs' = rs := by
            have := h1.symm.trans k1
            have inj : ∀ {a b : List Nat}, a.map markOf = b.map markOf → a = b := by
              intro a
              induction a with
              | nil => intro b hb; cases b <;> simp_all
              | cons x xs ih =>
                intro b hb
                cases b with
                | nil => simp at hb
                | cons y ys =>
                  simp only [List.map_cons, List.cons.injEq, markOf] at hb
                  obtain ⟨h1, h2⟩ := hb
                  have hxy : x = y := by injection h1 with h _; injection h
                  rw [hxy, ih h2]
            exact (inj this).symm
          rw [this] at k3
          exact k3 r hr
  | some l0 =>
    obtain ⟨r0, hr0⟩ := hrd l0 rfl
    have hget : (Instr.getLoop l0).run P w = .ok r0 w := by simp [Instr.getLoop, getObj, Sem.run, hr0]
    have hj := hrel.ghosts [.loop ⟨env, ps.toList, asg, body, .ready, none⟩]
    have hl := hj.lay_obj (id := σ.length) (o := .loop ⟨env, ps.toList, asg, body, .ready, none⟩) (by simp) hnone rfl ⟨{ state := .ready, pending := none, fn, tmps, params := ps, assign := asg, body := body, defers := r0.defers }, rfl, loopR _⟩
    have e2 := Ext.laid (n := σ.length) (ρ := ρ) (w := w) (Nat.le_refl σ.length) 0 0 (.loop { state := .ready, pending := none, fn, tmps, params := ps, assign := asg, body := body, defers := r0.defers })
    refine ⟨_, [], _, ?_, hl, hg.trans e2 hn, ?_⟩
    · simp only [Instr.enterLoop, Sem.run_bind, hget, run_newObj, Result.andThen_ok, Sem.run_pure]
      rfl
    · simpa using hd.ext e2

/-- **A function's text: what its ghost program does, it does in the world.** -/
theorem gexec_sound (hm : P.follows .mixedOrders = true) {rd : Option Nat} {n : Nat} {ww : World} {n0 : Nat} {ρ0 : Ren} (hrd : RdOk rd ww) : ∀ (c : Code) (g : GCode), comp P c = some g → ∀ (env : Env) (σ : GS) (ρ : Ren) (a : Act) (w : World) (Q : Exit → Env → GS → Prop),
    Rel N w0 ρ σ w → Ext n0 ρ0 ww ρ w → n0 ≤ σ.length → EnvR ρ env a → DefOk ww.heap.size ρ w a.defers → gexec P g env σ Q → c.wpIn (FW rd) n P (Lift N w0 n0 ρ0 ww Q) a w
  | .skip, g, hc, env, σ, ρ, a, w, Q, hrel, hg, hn, he, hd, hx => by
    simp [comp] at hc; subst hc
    exact wpIn_skip ⟨ρ, env, σ, hrel, hg, hn, he, hd, hx, .inl rfl⟩
  | .label l, g, hc, env, σ, ρ, a, w, Q, hrel, hg, hn, he, hd, hx => by
    simp [comp] at hc; subst hc
    exact wpIn_label ⟨ρ, env, σ, hrel, hg, hn, he, hd, hx, .inl rfl⟩
  | .exit id, g, hc, env, σ, ρ, a, w, Q, hrel, hg, hn, he, hd, hx => by
    simp [comp] at hc; subst hc
    exact wpIn_exit ⟨ρ, env, σ, hrel, hg, hn, he, hd, hx, .inr (.inr ⟨id, rfl⟩)⟩
  | .ret, g, hc, env, σ, ρ, a, w, Q, hrel, hg, hn, he, hd, hx => by
    simp [comp] at hc; subst hc
    exact wpIn_ret ⟨ρ, env, σ, hrel, hg, hn, he, hd, hx, .inr (.inl rfl)⟩
  | .region id ops draw, g, hc, env, σ, ρ, a, w, Q, hrel, hg, hn, he, hd, hx => by
    simp only [comp] at hc
    cases draw with
    | true =>
      simp only [if_true] at hc
      obtain ⟨st, hst, rfl⟩ := Option.map_eq_some_iff.1 hc
      have hp := planOf_ok hst
      refine wpIn_region_any hm ?_
      have hsm := SameMem.drawn w (w.drawn + 1)
      have hrel' := hrel.same hsm
      have hin : RInv P ops st N w0 σ.length ρ w a.defers env [] st (Array.replicate ops.size false) a { w with drawn := w.drawn + 1 } ρ env env σ (fun _ => none) := by
        have hf : ∀ j, (Array.replicate ops.size false).getD j false ≠ true := by
          intro j; simp [Array.getElem?_replicate]
          split <;> simp
        refine ⟨rfl, by simp, fun j o _ hj => absurd hj (hf j), fun j hj => absurd hj (hf j), hrel', he, rfl, rfl, ?_, ?_, ?_, ?_, ?_, ?_, ?_, Ext.same hsm (Ext.refl _ _ _), Nat.le_refl _, rfl⟩
        · intro t s hs; cases hs
        · intro t _; rfl
        · intro t _; rfl
        · intro p s q h; simp at h
        · intro s hs; cases hs
        · intro s hs; cases hs
        · intro s hs; cases hs
      refine region_any hp (K := Q .normal) ?_ ops.size [] st _ a _ ρ env env σ _ ?_ hin hx
      · intro ρ' env' σ' a' w' r1 r2 r3 r4 r5 r6
        exact ⟨ρ', env', σ', r1, hg.trans r2 hn, Nat.le_trans hn r3, r4, by rw [r5]; exact hd.ext r2, r6, .inl rfl⟩
      · refine Nat.le_trans (List.length_filter_le _ _) ?_
        exact hp.len
    | false =>
      simp only [Bool.false_eq_true, if_false] at hc
      obtain ⟨gs, hgs, rfl⟩ := Option.map_eq_some_iff.1 hc
      refine wpIn_region ?_
      have := region_seq (P := P) (ops := ops) (rd := rd) (n := n) (Q := Lift N w0 n0 ρ0 ww Q) (D0 := a.defers) (n0 := σ.length) (ρ0 := ρ) (ww := w) (K := Q .normal) (N := N) (w0 := w0)
        (fun ρ' env' σ' a' w' r1 r2 r3 r4 r5 r6 => ⟨ρ', env', σ', r1, hg.trans r2 hn, Nat.le_trans hn r3, r4, by rw [r5]; exact hd.ext r2, r6, .inl rfl⟩) ops.toList 0 gs env σ ρ a w (fun i => by simp) hgs hrel (Ext.refl _ _ _) (Nat.le_refl _) he rfl hx
      rw [List.range_eq_range']
      simpa using this
  | .seq x y, g, hc, env, σ, ρ, a, w, Q, hrel, hg, hn, he, hd, hx => by
    simp only [comp] at hc
    split at hc
    · rename_i gx gy h1 h2
      cases hc
      refine wpIn_seq (wpIn_mono (gexec_sound hm hrd x gx h1 env σ ρ a w _ hrel hg hn he hd hx) fun e a' w' hl => ?_)
      obtain ⟨ρ', env', σ', r1, r2, r3, r4, r5, r6, r7⟩ := hl
      rcases r7 with rfl | rfl | ⟨id, rfl⟩
      · exact gexec_sound hm hrd y gy h2 env' σ' ρ' a' w' Q r1 r2 r3 r4 r5 r6
      · exact ⟨ρ', env', σ', r1, r2, r3, r4, r5, r6, .inr (.inl rfl)⟩
      · exact ⟨ρ', env', σ', r1, r2, r3, r4, r5, r6, .inr (.inr ⟨id, rfl⟩)⟩
    · cases hc
  | .cond c x y, g, hc, env, σ, ρ, a, w, Q, hrel, hg, hn, he, hd, hx => by
    simp only [comp] at hc
    split at hc
    · rename_i gc gx gy h0 h1 h2
      cases hc
      have hv := genv_sound he c
      simp only [genv, h0] at hv
      simp only [gexec] at hx
      split at hx
      · rename_i hb; rw [hb] at hv
        exact wpIn_cond_true hv.bool_inv (gexec_sound hm hrd x gx h1 env σ ρ a w Q hrel hg hn he hd hx)
      · rename_i hb; rw [hb] at hv
        exact wpIn_cond_false hv.bool_inv (gexec_sound hm hrd y gy h2 env σ ρ a w Q hrel hg hn he hd hx)
      · exact hx.elim
    · cases hc
  | .block id c, g, hc, env, σ, ρ, a, w, Q, hrel, hg, hn, he, hd, hx => by
    simp only [comp] at hc
    obtain ⟨gc, h1, rfl⟩ := Option.map_eq_some_iff.1 hc
    refine wpIn_block (wpIn_mono (gexec_sound hm hrd c gc h1 env σ ρ a w _ hrel hg hn he hd hx) fun e a' w' hl => ?_)
    obtain ⟨ρ', env', σ', r1, r2, r3, r4, r5, r6, r7⟩ := hl
    rcases r7 with rfl | rfl | ⟨i, rfl⟩
    · exact ⟨ρ', env', σ', r1, r2, r3, r4, r5, r6, .inl rfl⟩
    · exact ⟨ρ', env', σ', r1, r2, r3, r4, r5, r6, .inr (.inl rfl)⟩
    · simp only [Exit.inBlock] at r6 ⊢
      split at r6
      · rename_i hid; rw [if_pos hid]; exact ⟨ρ', env', σ', r1, r2, r3, r4, r5, r6, .inl rfl⟩
      · rename_i hid; rw [if_neg hid]; exact ⟨ρ', env', σ', r1, r2, r3, r4, r5, r6, .inr (.inr ⟨i, rfl⟩)⟩
  | .loop c, g, hc, env, σ, ρ, a, w, Q, hrel, hg, hn, he, hd, hx => by
    simp only [comp] at hc
    obtain ⟨gc, h1, rfl⟩ := Option.map_eq_some_iff.1 hc
    simp only [gexec] at hx
    obtain ⟨I, ⟨n1, e1, hle, hI⟩, hround⟩ := hx
    refine wpIn_loopN (fun k a w => ∃ ρ env σ, Rel N w0 ρ σ w ∧ Ext n0 ρ0 ww ρ w ∧ n0 ≤ σ.length ∧ EnvR ρ env a ∧ DefOk ww.heap.size ρ w a.defers ∧ I k env σ) (n := n1) ⟨ρ, e1, σ, hrel, hg, hn, he.le hle, hd, hI⟩ ?_
    rintro k a w ⟨ρ, env, σ, r1, r2, r3, r4, r5, r6⟩
    refine wpIn_mono (gexec_sound hm hrd c gc h1 env σ ρ a w _ r1 r2 r3 r4 r5 (hround k env σ r6)) fun e a' w' hl => ?_
    obtain ⟨ρ', env', σ', r1, r2, r3, r4, r5, r6, r7⟩ := hl
    rcases r7 with rfl | rfl | ⟨i, rfl⟩
    · obtain ⟨m, e2, hm', hle', hI'⟩ := r6
      exact ⟨m, hm', ρ', e2, σ', r1, r2, r3, r4.le hle', r5, hI'⟩
    · exact ⟨ρ', env', σ', r1, r2, r3, r4, r5, r6, .inr (.inl rfl)⟩
    · exact ⟨ρ', env', σ', r1, r2, r3, r4, r5, r6, .inr (.inr ⟨i, rfl⟩)⟩
  | .rangeFunc f ps asg body, g, hc, env, σ, ρ, a, w, Q, hrel, hg, hn, he, hd, hx => by
    simp only [comp] at hc
    obtain ⟨gf, h0, rfl⟩ := Option.map_eq_some_iff.1 hc
    simp only [gexec] at hx
    split at hx
    · rename_i bf first caps hgf
      have hv := genv_sound he f
      simp only [genv, h0] at hv
      rw [hgf] at hv
      obtain ⟨ra, rb, v1, v2, v3⟩ := hv.func_inv
      obtain ⟨fn, hfn, hname, hbody⟩ := hx.1
      refine wpIn_rangeFunc fun fno _ => ?_
      obtain ⟨l, mark, w1, hen, q1, q2, q3⟩ := enter_run (P := P) hrel (hrd.ext hg) hg hn hd fno a.tmps ps asg body he
      have hle1 : ρ.le (ρ.put σ.length ⟨l, 0, 0⟩) := Ren.le_put (hrel.none_at (Nat.le_refl _)) _
      have hargs : VRs (ρ.put σ.length ⟨l, 0, 0⟩) (first ++ [.yield σ.length] ++ caps) (ra ++ [.func (.yield l) #[] #[]] ++ rb) := by
        refine ((VRs.mono hle1 _ _ v1).append (VRs.cons ?_ VRs.nil)).append (VRs.mono hle1 _ _ v2)
        simp only [VR]; exact ⟨_, Ren.put_same _ _ _, rfl⟩
      refine ⟨l, mark, w1, { target := .fn (.func bf) rb.toArray, args := ra.toArray ++ #[Value.func (.yield l) #[] #[]] }, w1, bf, (ra ++ [Value.func (.yield l) #[] #[]] ++ rb).toArray, w1, hen, ?_, fun _ _ => trivial, ?_, fun h => (by cases h), ?_⟩
      · have e : (rangeCall f l).args.map a.eval = #[Value.func (.yield l) #[] #[]] := by simp [rangeCall, Act.eval]
        show (Deferred.ofValue (a.eval f) ((rangeCall f l).args.map a.eval)).run P w1 = _
        rw [v3, e]; rfl
      · simp [invoke, callFunc_run hfn hname hbody]
      · refine gcall_in hx q1 hargs fun v rv ρ3 σ3 w3 s1 s2 s3 s4 s5 => ?_
        obtain ⟨lg, t1, t2, t3⟩ := s5
        have hL3 : ρ3 σ.length = some ⟨l, 0, 0⟩ := by rw [s2.grow.keep σ.length (by simp)]; exact Ren.put_same _ _ _
        obtain ⟨_, x, x1, r, rfl, x2⟩ := s1.obj σ.length _ _ hL3 t1 rfl
        have hg3 : Ext n0 ρ0 ww ρ3 w3 := q2.trans s2 (by simp; omega)
        obtain ⟨p1, p2, p3⟩ := s1.put_obj (P := P) hL3 t1 rfl (o' := .loop { lg with st := .exhausted }) rfl (x' := .loop { r with state := .exhausted }) ⟨_, rfl, ⟨x2.env, x2.ps, x2.asg, x2.body, rfl, x2.pend⟩⟩
        have e4 : Ext σ3.length ρ3 w3 ρ3 { w3 with heap := w3.heap.setIfInBounds l (.loop { r with state := .exhausted }) } :=
          Ext.touch hL3 p3 fun r0 hr0 => ⟨{ r with state := .exhausted }, by
            have hlt : l < w3.heap.size := (Array.getElem?_eq_some_iff.1 hr0).1
            show (w3.heap.setIfInBounds l _)[l]? = _
            simp [hlt], by rw [x1] at hr0; cases hr0; rfl⟩
        have hn3 : n0 ≤ σ3.length := by simp at s3; omega
        have hg4 := hg3.trans e4 hn3
        have hend : (Instr.endLoop l).run P w3 = .ok r.pending { w3 with heap := w3.heap.setIfInBounds l (.loop { r with state := .exhausted }) } := by
          have hget : (getObj l).run P w3 = .ok (.loop r) w3 := by simp [getObj, Sem.run, show w3.heap[l]? = some (.loop r) from x1]
          have hst : (r.state == .busy) = false := by
            rw [x2.st]
            cases h : lg.st <;> simp_all <;> rfl
          simp only [Instr.endLoop, Instr.getLoop, Sem.run_bind, hget, Result.andThen_ok, Sem.run_pure, hst]
          simp only [Bool.false_eq_true, if_false, Sem.run_bind]
          rw [show (setObj l (.loop { r with state := .exhausted })).run P w3 = _ from p1]
          rfl
        generalize hw4 : ({ w3 with heap := w3.heap.setIfInBounds l (.loop { r with state := .exhausted }) } : World) = w4 at p2 e4 hg4 hend
        have hlift : ∀ e, Q e env (σ3.set σ.length (.loop { lg with st := .exhausted })) → (e = .normal ∨ e = .ret ∨ ∃ id, e = .exit id) → Lift N w0 n0 ρ0 ww Q e { a with defers := mark ++ a.defers } w4 := by
          intro e hq hk
          exact ⟨ρ3, env, _, p2, hg4, by simpa using hn3, (he.mono hle1).mono (q1.le' s2), (q3.ext s2).ext e4, hq, hk⟩
        refine ⟨r.pending, _, hend, ?_⟩
        rw [x2.pend]
        split at t3
        · rename_i hp; rw [hp]; exact hlift _ t3 (.inl rfl)
        · rename_i hp; rw [hp]; exact wpIn_ret (hlift _ t3 (.inr (.inl rfl)))
        · rename_i i hp; rw [hp]; exact wpIn_exit (hlift _ t3 (.inr (.inr ⟨i, rfl⟩)))
        · exact t3.elim
    · exact hx.elim
  | .scope _, g, hc, env, σ, ρ, a, w, Q, hrel, hg, hn, he, hd, hx => by
    simp [comp] at hc; subst hc; exact hx.elim
  | .goto _, g, hc, env, σ, ρ, a, w, Q, hrel, hg, hn, he, hd, hx => by
    simp [comp] at hc; subst hc; exact hx.elim
  | .refuse _, g, hc, env, σ, ρ, a, w, Q, hrel, hg, hn, he, hd, hx => by
    simp [comp] at hc; subst hc; exact hx.elim
end
end Go.Gh
namespace Go.Gh
open Go.RowKit
set_option linter.unusedVariables false
set_option linter.unusedSimpArgs false

/-- Where a function's results lie. -/
inductive RK where
  | tmp (t : Tmp)
  | cell (t : Tmp) (n : Nat) (agg : Bool)
def rkOf (P : Program) : ResultVar → Option RK
  | .tmp t => some (.tmp t)
  | .cell a t => match P.underlying t, sizeD P t with
    | some d, some n => some (.cell a n (isAggD (some d)))
    | _, _ => none
def rksOf (P : Program) : List ResultVar → Option (List RK)
  | [] => some []
  | x :: xs => match rkOf P x, rksOf P xs with
    | some r, some rs => some (r :: rs)
    | _, _ => none
def gres1 (env : Env) (σ : GS) : RK → Option DV
  | .tmp t => some (garg env (.tmp t))
  | .cell t n agg => gload (.load n agg) [garg env (.tmp t)] σ
def gresL (env : Env) (σ : GS) : List RK → Option (List DV)
  | [] => some []
  | r :: rs => match gres1 env σ r, gresL env σ rs with
    | some v, some vs => some (v :: vs)
    | _, _ => none
def gresV (vs : List DV) : DV := match vs with | [v] => v | vs => .tuple vs
def gret (rs : List RK) (Post : DV → GS → Prop) (e : Exit) (env : Env) (σ : GS) : Prop :=
  match e with
  | .normal => match gresL env σ rs with | some vs => Post (gresV vs) σ | none => False
  | .ret => match gresL env σ rs with | some vs => Post (gresV vs) σ | none => False
  | _ => False
structure GFun where
  ntmps : Nat
  results : List RK
  body : GCode
def compF (P : Program) (fn : Func) : Option GFun :=
  match fn.body with
  | none => none
  | some c => match comp P c, rksOf P fn.results.toList with
    | some g, some rs => some ⟨fn.ntmps, rs, g⟩
    | _, _ => none
def genv0 (args : List DV) (n : Nat) : Env := args ++ List.replicate (n - args.length) (.tuple [])

/-- One result, in the model. -/
def resOne (tmps : Array Value) : ResultVar → Sem Value
  | .tmp t => pure (tmps.getD t undef)
  | .cell b t => do loadVar t (← asAddr (tmps.getD b undef))
theorem results_eq (fn : Func) (tmps : Array Value) : results fn tmps = (do let vs ← fn.results.mapM (resOne tmps); pure (if h : vs.size = 1 then vs[0] else .tuple vs)) := by
  unfold results
  congr 1

section
variable {P : Program} {N : Nat} {w0 : World} {ρ : Ren} {σ : GS} {w : World}
theorem gres1_sound {env : Env} {a : Act} (he : EnvR ρ env a) (h : Rel N w0 ρ σ w) {x : ResultVar} {k : RK} (hk : rkOf P x = some k) {v : DV} (hv : gres1 env σ k = some v) :
    ∃ rv, (resOne a.tmps x).run P w = .ok rv w ∧ VR ρ v rv := by
  cases x with
  | tmp t =>
    simp [rkOf] at hk; subst hk
    simp only [gres1, Option.some.injEq] at hv; subst hv
    have hb : VR ρ (garg env (.tmp t)) (a.eval (.tmp t)) := by have := genv_sound he (.tmp t); simpa only [genv, argOf] using this
    exact ⟨_, rfl, hb⟩
  | cell b t =>
    simp only [rkOf] at hk
    split at hk
    · rename_i d n hd hn
      cases hk
      have hb : VR ρ (garg env (.tmp b)) (a.eval (.tmp b)) := by have := genv_sound he (.tmp b); simpa only [genv, argOf] using this
      simp only [gres1] at hv
      cases hx : garg env (.tmp b) <;> simp only [hx, gload] at hv <;> try (cases hv; done)
      case fptr cs =>
        rw [hx] at hb
        obtain ⟨bb, o, vs, hp, g1, g2⟩ := hb.fptr_inv
        replace hp : a.tmps.getD b undef = _ := hp
        have hl := g1.length
        split at hv
        · rename_i hagg
          split at hv
          · rename_i hle
            cases hv
            refine ⟨.agg (vs.take n).toArray, ?_, by simp only [VR]; exact ⟨_, g1.take n, rfl⟩⟩
            simp only [resOne, hp]; simp [asAddr, loadVar, isAgg_run hd, hagg, sizeD_run hn, loadFz_run (P := P) h g2 (show n ≤ vs.length by omega)]
          · cases hv
        · rename_i hagg
          obtain ⟨rv, h2, h3⟩ := g1.get hv
          have := h.fzw _ _ _ (g2 0 rv h2)
          refine ⟨rv, ?_, h3⟩
          simp only [Nat.add_zero] at this
          simp only [resOne, hp]; simp [asAddr, loadVar, isAgg_run hd, hagg, this]
      rename_i id off
      rw [hx] at hb
      obtain ⟨L, hL, hp⟩ := hb.ptr_inv
      replace hp : a.tmps.getD b undef = _ := hp
      split at hv
      · rename_i ro cs hrow
        obtain ⟨hc, _⟩ := h.row id L ro cs hL hrow
        split at hv
        · rename_i hagg
          split at hv
          · rename_i hle
            cases hv
            obtain ⟨rs, h2, h3⟩ := loadCells_run (P := P) hc hle
            refine ⟨.agg rs.toArray, ?_, by simp only [VR]; exact ⟨rs, h3, rfl⟩⟩
            simp only [resOne, hp]; simp [asAddr, loadVar, isAgg_run hd, hagg, sizeD_run hn, h2]
          · cases hv
        · rename_i hagg
          obtain ⟨rv, h2, h3⟩ := hc off v hv
          exact ⟨rv, by simp only [resOne, hp]; simp [asAddr, loadVar, isAgg_run hd, hagg, h2], h3⟩
      · cases hv
    · cases hk
theorem gresL_sound {env : Env} {a : Act} (he : EnvR ρ env a) (h : Rel N w0 ρ σ w) : ∀ {xs : List ResultVar} {ks : List RK} {vs : List DV}, rksOf P xs = some ks → gresL env σ ks = some vs →
    ∃ rvs, (xs.mapM (resOne a.tmps)).run P w = .ok rvs w ∧ VRs ρ vs rvs
  | [], ks, vs, hk, hv => by
    simp [rksOf] at hk; subst hk
    simp [gresL] at hv; subst hv
    exact ⟨[], rfl, VRs.nil⟩
  | x :: xs, ks, vs, hk, hv => by
    simp only [rksOf] at hk
    split at hk
    · rename_i k ks' h1 h2
      cases hk
      simp only [gresL] at hv
      split at hv
      · rename_i v vs' h3 h4
        cases hv
        obtain ⟨rv, r1, r2⟩ := gres1_sound he h h1 h3
        obtain ⟨rvs, r3, r4⟩ := gresL_sound he h h2 h4
        refine ⟨rv :: rvs, ?_, VRs.cons r2 r4⟩
        rw [List.mapM_cons, Sem.run_bind, r1, Result.andThen_ok, Sem.run_bind, r3]
        rfl
      · cases hv
    · cases hk
theorem gres_sound {fn : Func} {env : Env} {a : Act} (he : EnvR ρ env a) (h : Rel N w0 ρ σ w) {ks : List RK} {vs : List DV} (hk : rksOf P fn.results.toList = some ks) (hv : gresL env σ ks = some vs) :
    ∃ rv, (results fn a.tmps).run P w = .ok rv w ∧ VR ρ (gresV vs) rv := by
  obtain ⟨rvs, r1, r2⟩ := gresL_sound he h hk hv
  have hrun : (results fn a.tmps).run P w = .ok (if h : rvs.toArray.size = 1 then rvs.toArray[0] else .tuple rvs.toArray) w := by
    rw [results_eq, Sem.run_bind, Array.mapM_eq_mapM_toList, Sem.run_map, r1]
    rfl
  refine ⟨_, hrun, ?_⟩
  unfold gresV
  split
  · rename_i v
    obtain ⟨y, rfl, hy⟩ := r2.one_inv
    simpa using hy
  · rename_i hne
    have hl := r2.length
    have : ¬ rvs.toArray.size = 1 := by
      intro e
      simp only [List.size_toArray] at e
      rw [hl] at e
      obtain ⟨v, rfl⟩ := List.length_eq_one_iff.1 e
      exact hne v rfl
    rw [dif_neg this]
    simp only [VR]
    exact ⟨rvs, r2, rfl⟩

theorem Ext.after {n0 : Nat} {ρ0 : Ren} {ww w' : World} {b : Nat} (h : Ext n0 ρ0 ww ρ w) (ht : Touch w b w') (hb : ww.heap.size ≤ b) : Ext n0 ρ0 ww ρ w' :=
  ⟨h.grow, h.new, by rw [ht.size]; exact h.size, fun k hk hu => (ht.other k (by omega)).trans (h.frame k hk hu), fun k r hr => by
    have hlt := (Array.getElem?_eq_some_iff.1 hr).1
    obtain ⟨r', h1, h2⟩ := h.loops k r hr
    exact ⟨r', by rw [ht.other k (by omega)]; exact h1, h2⟩⟩
/-- Leaving a function: the marks of its loops are taken up, one by one. -/
theorem leaves_marks {fn : Func} {tmps : Array Value} {R : Ending → World → Prop} {n0 : Nat} {ρ0 : Ren} {ww : World}
    (hR : ∀ w, Rel N w0 ρ σ w → Ext n0 ρ0 ww ρ w → ∃ v, (results fn tmps).run P w = .ok v w ∧ R (.returned v) w) (hN : N ≤ ww.heap.size) :
    ∀ (rs : List Nat) (w : World), Rel N w0 ρ σ w → Ext n0 ρ0 ww ρ w → rs.Nodup → (∀ r ∈ rs, ww.heap.size ≤ r ∧ w.heap[r]? = some (.deferred (some [])) ∧ ∀ i M, ρ i = some M → M.blk ≠ r) →
      LeavesInM (FW none) 0 P fn tmps R (rs.map markOf) .returning w
  | [], w, h1, h2, _, _ => hR w h1 h2
  | r :: rs, w, h1, h2, h3, h4 => by
    obtain ⟨g1, g2, g3⟩ := h4 r (by simp)
    obtain ⟨h5, h6⟩ := List.nodup_cons.1 h3
    have hlt : r < w.heap.size := (Array.getElem?_eq_some_iff.1 g2).1
    have ht : Touch w r { w with heap := w.heap.setIfInBounds r (.deferred none) } := ⟨by simp, fun k hk => by simp [Array.getElem?_setIfInBounds, Ne.symm hk]⟩
    refine ⟨by simp, .inl ⟨r, { w with heap := w.heap.setIfInBounds r (.deferred none) }, rfl, ?_, ?_⟩⟩
    · simp [Instr.takeDeferred, getObj, setObj, Sem.run, g2]
    · refine leaves_marks hR hN rs _ (h1.other g3 (by omega) (fun o => by simp [World.cell?, g2]) ht ⟨rfl, rfl, rfl⟩) (h2.after ht g1) h6 fun r' hr' => ?_
      obtain ⟨k1, k2, k3⟩ := h4 r' (by simp [hr'])
      refine ⟨k1, ?_, k3⟩
      rw [ht.other r' (fun e => h5 (e ▸ hr'))]; exact k2

/-- **A function's contract from its ghost program.** -/
theorem gcall_of {f : FuncId} {fn : Func} {gf : GFun} (hm : P.follows .mixedOrders = true) (hf : P.funcs[f]? = some fn) (hname : (fn.name == "runtime.NumGoroutine") = false) (hc : compF P fn = some gf) {args : List DV} {Post : DV → GS → Prop}
    (h : gexec P gf.body (genv0 args gf.ntmps) σ (gret gf.results Post)) : GCall P f args σ Post := by
  unfold compF at hc
  split at hc
  · cases hc
  · rename_i c hb
    split at hc
    · rename_i g rs h1 h2
      cases hc
      refine ⟨⟨fn, hf, hname, by simp [hb]⟩, fun N w0 ρ w rargs hrel hv => ?_⟩
      refine (callsIn_wide (n := 0)).1 (callsIn_of_wp_marks (F := FW none) hf hb trivial ?_ rfl)
      have hl := hv.length
      have he : EnvR ρ (genv0 args fn.ntmps) { tmps := rargs.toArray ++ Array.replicate (fn.ntmps - rargs.toArray.size) undef, defers := [] } := by
        unfold EnvR genv0
        simp only [Array.toList_append, Array.toList_replicate, List.size_toArray]
        rw [hl]
        exact hv.append (VRs.replicate (by simp only [VR]; exact ⟨[], VRs.nil, rfl⟩) _)
      refine wpIn_mono (gexec_sound hm (rd := none) (fun l hl => by cases hl) c g h1 _ σ ρ _ w _ hrel (Ext.refl _ _ _) (Nat.le_refl _) he ⟨[], rfl, List.nodup_nil, fun r hr => by cases hr⟩ h) fun e a' w' hl => ?_
      obtain ⟨ρ', env', σ', r1, r2, r3, r4, ⟨ms, m1, m2, m3⟩, r6, r7⟩ := hl
      have key : (∃ vs, gresL env' σ' rs = some vs ∧ Post (gresV vs) σ') → LeavesInM (FW none) 0 P fn a'.tmps (fun e w' => ∃ v rv ρ' σ', e = Ending.returned rv ∧ Rel N w0 ρ' σ' w' ∧ Ext σ.length ρ w ρ' w' ∧ σ.length ≤ σ'.length ∧ VR ρ' v rv ∧ Post v σ') a'.defers .returning w' := by
        rintro ⟨vs, hvs, hp⟩
        rw [m1]
        refine leaves_marks (ρ := ρ') (σ := σ') (n0 := σ.length) (ρ0 := ρ) (ww := w) (fun w2 s1 s2 => ?_) hrel.size ms w' r1 r2 m2 m3
        obtain ⟨rv, k1, k2⟩ := gres_sound (P := P) (fn := fn) r4 s1 h2 hvs
        exact ⟨rv, k1, _, rv, ρ', σ', rfl, s1, s2, r3, k2, hp⟩
      rcases r7 with rfl | rfl | ⟨id, rfl⟩
      · refine key ?_
        simp only [gret] at r6
        split at r6
        · rename_i vs hvs; exact ⟨vs, hvs, r6⟩
        · exact r6.elim
      · refine key ?_
        simp only [gret] at r6
        split at r6
        · rename_i vs hvs; exact ⟨vs, hvs, r6⟩
        · exact r6.elim
      · exact r6.elim
    · cases hc

def putAll (env : Env) : List Tmp → List DV → Env
  | p :: ps, v :: vs => putAll (env.set p v) ps vs
  | _, _ => env
theorem putAll_sound : ∀ {ps : List Tmp} {vs : List DV} {rvs : List Value} {env : Env} {tmps : Array Value}, VRs ρ vs rvs → VRs ρ env tmps.toList → VRs ρ (putAll env ps vs) ((ps.zip rvs).foldl (fun (tmps : Array Value) (p : Tmp × Value) => tmps.setIfInBounds p.1 p.2) tmps).toList
  | [], vs, rvs, env, tmps, _, he => by simpa [putAll] using he
  | p :: ps, [], rvs, env, tmps, hv, he => by simp only [VRs] at hv; subst hv; simpa [putAll] using he
  | p :: ps, v :: vs, rvs, env, tmps, hv, he => by
    simp only [VRs] at hv
    obtain ⟨rv, rl, rfl, h1, h2⟩ := hv
    simp only [putAll, List.zip_cons_cons, List.foldl_cons]
    refine putAll_sound h2 ?_
    rw [Array.toList_setIfInBounds]
    exact VRs.set he h1 p

/-- How a round's end turns the loop's record. -/
def ground (id : Nat) (Post : DV → GS → Prop) (x : Exit) (env : Env) (σ : GS) : Prop :=
  ∃ lg, σ[id]? = some (.loop lg) ∧ match x with
    | .normal => Post (.bool true) (σ.set id (.loop { lg with st := .ready, pend := none }))
    | .ret => Post (.bool false) (σ.set id (.loop { lg with st := .done, pend := some .ret }))
    | .exit i => Post (.bool false) (σ.set id (.loop { lg with st := .done, pend := some (.exit i) }))
    | _ => False
/-- **A round's contract from its ghost program.** -/
theorem ground_of (hm : P.follows .mixedOrders = true) {id : Nat} {lg : LoopG} {args : List DV} {Post : DV → GS → Prop} (hs : σ[id]? = some (.loop lg)) (hst : lg.st = .ready) {ga gb : GCode} (ha : comp P lg.asg = some ga) (hb : comp P lg.body = some gb) (hlen : args.length = lg.ps.length)
    (h : gexec P ga (putAll lg.env lg.ps args) σ fun e e1 σ1 => e = .normal ∧ ∃ lg1, σ1[id]? = some (.loop lg1) ∧ lg1.st = .ready ∧ gexec P gb e1 (σ1.set id (.loop { lg1 with st := .busy })) (ground id Post)) : GRound P id args σ Post := by
  intro N w0 ρ w rargs L hrel hv hL
  obtain ⟨_, x, x1, r, rfl, x2⟩ := hrel.obj id L _ hL hs rfl
  have hlr := hv.length
  have hps : r.params.size = lg.ps.length := by rw [← x2.ps]; simp
  refine ⟨r, x1, by omega, ?_⟩
  refine roundIn_of_wpIn (F := Fence.wide) trivial ?_
  have hrd : RdOk (some L.blk) w := fun l hl => by cases hl; exact ⟨r, x1⟩
  have hfold : (r.params.zip rargs.toArray).foldl (fun tmps (t, a) => tmps.setIfInBounds t a) r.tmps = (lg.ps.zip rargs).foldl (fun (tmps : Array Value) (p : Tmp × Value) => tmps.setIfInBounds p.1 p.2) r.tmps := by
    rw [← x2.ps, ← Array.foldl_toList, Array.toList_zip]
  have he : EnvR ρ (putAll lg.env lg.ps args) { tmps := (r.params.zip rargs.toArray).foldl (fun tmps (t, a) => tmps.setIfInBounds t a) r.tmps, defers := [] } := by
    unfold EnvR
    simp only [hfold]
    exact putAll_sound hv x2.env
  rw [← x2.asg] at ha
  have hd0 : DefOk w.heap.size ρ w [] := ⟨[], rfl, List.nodup_nil, fun r hr => by cases hr⟩
  refine wpIn_mono (gexec_sound hm (rd := some L.blk) hrd r.assign ga ha _ σ ρ _ w _ hrel (Ext.refl _ _ _) (Nat.le_refl _) he hd0 h) fun e a1 w1 hl => ?_
  obtain ⟨ρ1, env1, σ1, r1, r2, r3, r4, r5, ⟨rfl, lg1, t1, t2, t3⟩, r7⟩ := hl
  have hL1 : ρ1 id = some L := (hrel.le' r2).at_ id L hL
  obtain ⟨_, y, y1, q, rfl, y2⟩ := r1.obj id L _ hL1 t1 rfl
  -- the body and the assignments of the record stay
  obtain ⟨p1, p2, p3⟩ := r1.put_obj (P := P) hL1 t1 rfl (o' := .loop { lg1 with st := .busy }) rfl (x' := .loop { q with state := .busy }) ⟨_, rfl, ⟨y2.env, y2.ps, y2.asg, y2.body, rfl, y2.pend⟩⟩
  have hlt : L.blk < w1.heap.size := (Array.getElem?_eq_some_iff.1 y1).1
  have e2 : Ext σ1.length ρ1 w1 ρ1 { w1 with heap := w1.heap.setIfInBounds L.blk (.loop { q with state := .busy }) } :=
    Ext.touch hL1 p3 fun r0 hr0 => ⟨{ q with state := .busy }, by
      show (w1.heap.setIfInBounds L.blk _)[L.blk]? = _
      simp [hlt], by rw [y1] at hr0; cases hr0; rfl⟩
  have hbegin : (Instr.beginRound L.blk).run P w1 = .ok () { w1 with heap := w1.heap.setIfInBounds L.blk (.loop { q with state := .busy }) } := by
    have hget : (getObj L.blk).run P w1 = .ok (.loop q) w1 := by simp [getObj, Sem.run, y1]
    have hq : q.state = .ready := by rw [y2.st]; exact t2
    simp only [Instr.beginRound, Instr.getLoop, Sem.run_bind, hget, Result.andThen_ok, Sem.run_pure, p1, hq]
  generalize hw2 : ({ w1 with heap := w1.heap.setIfInBounds L.blk (.loop { q with state := .busy }) } : World) = w2 at p2 e2 hbegin
  refine ⟨w2, hbegin, ?_⟩
  rw [← x2.body] at hb
  have hext2 : Ext σ.length ρ w ρ1 w2 := r2.trans e2 r3
  refine wpIn_mono (gexec_sound hm (rd := some L.blk) hrd r.body gb hb env1 _ ρ1 a1 w2 _ p2 hext2 (by simpa using r3) r4 (r5.ext e2) t3) fun x a3 w3 hl => ?_
  obtain ⟨ρ3, env3, σ3, s1, s2, s3, s4, s5, ⟨lg3, u1, u2⟩, s7⟩ := hl
  have hL3 : ρ3 id = some L := (hrel.le' s2).at_ id L hL
  obtain ⟨_, z, z1, v, rfl, z2⟩ := s1.obj id L _ hL3 u1 rfl
  have hlt3 : L.blk < w3.heap.size := (Array.getElem?_eq_some_iff.1 z1).1
  have hget3 : (getObj L.blk).run P w3 = .ok (.loop v) w3 := by simp [getObj, Sem.run, z1]
  have fin : ∀ (b : Bool) (st : LoopState) (pd : Option Code), Post (.bool b) (σ3.set id (.loop { lg3 with st := st, pend := pd })) →
      (setObj L.blk (.loop { v with state := st, pending := pd })).run P w3 = .ok () { w3 with heap := w3.heap.setIfInBounds L.blk (.loop { v with state := st, pending := pd }) } ∧
      ∃ v' rv ρ' σ', Ending.returned (.bool b) = .returned rv ∧ Rel N w0 ρ' σ' { w3 with heap := w3.heap.setIfInBounds L.blk (.loop { v with state := st, pending := pd }) } ∧ Ext σ.length ρ w ρ' { w3 with heap := w3.heap.setIfInBounds L.blk (.loop { v with state := st, pending := pd }) } ∧ σ.length ≤ σ'.length ∧ VR ρ' v' rv ∧ Post v' σ' := by
    intro b st pd hp
    obtain ⟨k1, k2, k3⟩ := s1.put_obj (P := P) hL3 u1 rfl (o' := .loop { lg3 with st := st, pend := pd }) rfl (x' := .loop { v with state := st, pending := pd }) ⟨_, rfl, ⟨z2.env, z2.ps, z2.asg, z2.body, rfl, rfl⟩⟩
    refine ⟨k1, .bool b, .bool b, ρ3, _, rfl, k2, s2.trans (Ext.touch hL3 k3 fun r0 hr0 => ⟨{ v with state := st, pending := pd }, ?_, ?_⟩) s3, by simpa using s3, by simp [VR], hp⟩
    · show (w3.heap.setIfInBounds L.blk _)[L.blk]? = _
      simp [hlt3]
    · rw [z1] at hr0; cases hr0; rfl
  rcases s7 with rfl | rfl | ⟨i, rfl⟩
  · obtain ⟨k1, k2⟩ := fin true .ready none u2
    refine ⟨.bool true, _, ?_, k2⟩
    simp only [Instr.endRound, Instr.getLoop, Sem.run_bind, hget3, Result.andThen_ok, Sem.run_pure]
    simp only [Option.isNone_none, if_true, k1, Result.andThen_ok]
  · obtain ⟨k1, k2⟩ := fin false .done (some .ret) u2
    refine ⟨.bool false, _, ?_, k2⟩
    simp only [Instr.endRound, Instr.getLoop, Sem.run_bind, hget3, Result.andThen_ok, Sem.run_pure]
    simp only [Option.isNone_some, Bool.false_eq_true, if_false, k1, Result.andThen_ok]
  · obtain ⟨k1, k2⟩ := fin false .done (some (.exit i)) u2
    refine ⟨.bool false, _, ?_, k2⟩
    simp only [Instr.endRound, Instr.getLoop, Sem.run_bind, hget3, Result.andThen_ok, Sem.run_pure]
    simp only [Option.isNone_some, Bool.false_eq_true, if_false, k1, Result.andThen_ok]
end
end Go.Gh
