/-
  Proved: enc's formulas of nets.
  Part 4 of 10. Conditions: none. A verified frame that runs compiled texts over a ghost heap, the contracts of the functions that the statement reaches, and the plain law.
-/
import Derived.Test.YtdpbcckkdccmlaaGreatXN3
import Derived.Laws.BitsLemmas
import Derived.Shelf.Sort.Plain
import Derived.Shelf.Slices.In.SortNone
namespace Go.Gh
open Go.RowKit
set_option linter.unusedVariables false
set_option linter.unusedSimpArgs false

def leL : List DV → List DV → Prop
  | [], [] => True
  | x :: a, y :: b => (x = .any ∨ x = y) ∧ leL a b
  | _, _ => False
theorem leL_le : ∀ {a b : List DV}, leL a b → Env.le a b
  | [], [], _ => ⟨rfl, fun t => .inl rfl⟩
  | x :: a, y :: b, h => by
    obtain ⟨h1, h2⟩ := h
    have ih := leL_le h2
    refine ⟨by simp [ih.1], fun t => ?_⟩
    cases t with
    | zero =>
      rcases h1 with rfl | rfl
      · exact .inr rfl
      · exact .inl rfl
    | succ t => simpa using ih.2 t

/-- A slice that reads as a list; R says how the cells of an element read. -/
def Sl {α : Type} (sz : Nat) (R : GS → List DV → α → Prop) (σ : GS) (s : DV) (xs : List α) : Prop :=
  ((s = .nils ∨ s = .fsl sz []) ∧ xs = []) ∨ ∃ id off cap ro cs, s = .slice id off xs.length sz cap ∧ σ[id]? = some (.row ro cs) ∧ off + xs.length * sz ≤ cs.length ∧ ∀ (i : Nat) (x : α), xs[i]? = some x → R σ ((cs.drop (off + i * sz)).take sz) x
def RInt (k : IntKind) (_ : GS) (c : List DV) (n : Int) : Prop := c = [.int k n]
abbrev SInt := Sl 1 (RInt .i64)

theorem Sl.len {α : Type} {sz : Nat} {R : GS → List DV → α → Prop} {σ : GS} {s : DV} {xs : List α} (h : Sl sz R σ s xs) : gpure .len [s] = some (.int .i64 xs.length) := by
  rcases h with ⟨rfl | rfl, rfl⟩ | ⟨id, off, cap, ro, cs, rfl, _⟩ <;> rfl
/-- An element's address and what lies there. -/
theorem SInt.at_ {σ : GS} {s : DV} {xs : List Int} (h : SInt σ s xs) {i : Nat} {x : Int} (hi : xs[i]? = some x) {k : IntKind} : ∃ p, gpure (.iaddr 1) [s, .int k (i : Int)] = some p ∧ gload (.load 1 false) [p] σ = some (.int .i64 x) := by
  have hlt : i < xs.length := by
    rcases Nat.lt_or_ge i xs.length with h' | h'
    · exact h'
    · rw [List.getElem?_eq_none h'] at hi; cases hi
  rcases h with ⟨_, rfl⟩ | ⟨id, off, cap, ro, cs, rfl, h1, h2, h3⟩
  · simp at hlt
  · refine ⟨.ptr id (off + i * 1), ?_, ?_⟩
    · simp only [gpure]
      rw [if_pos (by omega)]; simp
    · have := h3 i x hi
      simp only [RInt] at this
      simp only [gload, h1]
      simp at this ⊢
      have h4 : (cs.drop (off + i)).take 1 = [DV.int .i64 x] := this
      have h5 : ((cs.drop (off + i)).take 1)[0]? = some (DV.int .i64 x) := by rw [h4]; rfl
      rw [List.getElem?_take] at h5
      simpa using h5
end Go.Gh
namespace Go.Gh
open Go.RowKit
set_option linter.unusedVariables false
set_option linter.unusedSimpArgs false

/-- What comes next, where simp does not look. -/
class Bx (α : Type) where
  val : α
@[simp] theorem Bx.val_mk {α : Type} (f : α) : @Bx.val α ⟨f⟩ = f := rfl
/-- An answer that must be there. -/
def runO {β : Type} (o : Option β) [k : Bx (β → Prop)] : Prop := ∃ v, o = some v ∧ k.val v
@[simp] theorem runO_some {β : Type} (v : β) (k : Bx (β → Prop)) : @runO β (some v) k = k.val v := by simp [runO]
/-- A branch. -/
def runC (d : DV) [k : Bx (Bool → Prop)] : Prop := ∃ t, d = .bool t ∧ k.val t
@[simp] theorem runC_true (k : Bx (Bool → Prop)) : @runC (.bool true) k = k.val true := by simp [runC]
@[simp] theorem runC_false (k : Bx (Bool → Prop)) : @runC (.bool false) k = k.val false := by simp [runC]
def pickP [A : Bx Prop] [B : Bx Prop] (t : Bool) : Prop := match t with | true => A.val | false => B.val
@[simp] theorem pickP_true (A B : Bx Prop) : @pickP A B true = A.val := rfl
@[simp] theorem pickP_false (A B : Bx Prop) : @pickP A B false = B.val := rfl
/-- Go on with an environment and a heap. -/
def runE (e : Env) (σ : GS) [k : Bx (Env → GS → Prop)] : Prop := k.val e σ
@[simp] theorem runE_eq (e : Env) (σ : GS) (k : Bx (Env → GS → Prop)) : @runE e σ k = k.val e σ := rfl
/-- A call that waits for its contract. -/
def xcallB (P : Program) (f : FuncId) (args : List DV) (σ : GS) [k : Bx (DV → GS → Prop)] : Prop := XCall P f args σ k.val
def callB (P : Program) (f : FuncId) (args : List DV) (σ : GS) [k : Bx (DV → GS → Prop)] : Prop := GCall P f args σ k.val
/-- A loop that waits for its invariant. -/
def loopB (P : Program) (env : Env) (σ : GS) [c : Bx GCode] [k : Bx (Exit → Env → GS → Prop)] : Prop := gexec P (.loop c.val) env σ k.val
/-- A loop over an iterator that waits for its contract. -/
def rangeB (P : Program) (f : DV) (env : Env) (σ : GS) [c : Bx (List Tmp × Code × Code)] [k : Bx (Exit → Env → GS → Prop)] : Prop := match f with
  | .func bf first caps => GCall P bf (first ++ [.yield σ.length] ++ caps) (σ ++ [.loop ⟨env, c.val.1, c.val.2.1, c.val.2.2, .ready, none⟩]) fun _ σ' => grange σ.length env k.val σ'
  | _ => False
def callvB (P : Program) (args : List DV) (σ : GS) [k : Bx (DV → GS → Prop)] : Prop := gdo P .callv args σ k.val
/-- A step of an iterator over a map. -/
def nextB (args : List DV) (σ : GS) [k : Bx (DV → GS → Prop)] : Prop := gnext args σ k.val
@[simp] theorem callvB_func (P : Program) (f : FuncId) (a b rest : List DV) (σ : GS) (k : Bx (DV → GS → Prop)) : @callvB P (.func f a b :: rest) σ k = @callB P f (a ++ rest ++ b) σ k := rfl
/-- A comparison of a slice with nil that waits for its answer. -/
def eqnB (neg : Bool) (args : List DV) [k : Bx (DV → Prop)] : Prop := geqn neg args k.val
@[simp] theorem eqnB_nil (neg : Bool) (k : Bx (DV → Prop)) : @eqnB neg [.nils, .nils] k = k.val (.bool (!neg)) := by cases neg <;> simp [eqnB, geqn, nilq]
theorem eqn_any {neg : Bool} {x : DV} {k : Bx (DV → Prop)} (hq : nilq x ≠ []) (h : ∀ b ∈ nilq x, k.val (.bool (b != neg))) : @eqnB neg [x, .nils] k := ⟨hq, h⟩
def recB (l : List GOp) (env : Env) (σ σ' : GS) : Prop := grec l env σ σ'

/-- A ghost program and a list of steps, where simp does not look. -/
def exB (P : Program) [c : Bx GCode] (env : Env) (σ : GS) [Q : Bx (Exit → Env → GS → Prop)] : Prop := gexec P c.val env σ Q.val
def stB (P : Program) [st : Bx (List GStep)] (env : Env) (σ : GS) [K : Bx (Env → GS → Prop)] : Prop := gsteps P st.val env σ K.val
def seqK (P : Program) [b : Bx GCode] [Q : Bx (Exit → Env → GS → Prop)] (e : Exit) (env : Env) (σ : GS) : Prop := match e with | .normal => gexec P b.val env σ Q.val | e => Q.val e env σ
@[simp] theorem seqK_normal (P : Program) (b : Bx GCode) (Q : Bx (Exit → Env → GS → Prop)) (env : Env) (σ : GS) : @seqK P b Q .normal env σ = @exB P b env σ Q := rfl
@[simp] theorem seqK_ret (P : Program) (b : Bx GCode) (Q : Bx (Exit → Env → GS → Prop)) (env : Env) (σ : GS) : @seqK P b Q .ret env σ = Q.val .ret env σ := rfl
@[simp] theorem seqK_exit (P : Program) (b : Bx GCode) (Q : Bx (Exit → Env → GS → Prop)) (env : Env) (σ : GS) (i : Nat) : @seqK P b Q (.exit i) env σ = Q.val (.exit i) env σ := rfl
def blockK (id : Nat) [Q : Bx (Exit → Env → GS → Prop)] (e : Exit) (env : Env) (σ : GS) : Prop := match e with | .exit i => if i = id then Q.val .normal env σ else Q.val (.exit i) env σ | e => Q.val e env σ
@[simp] theorem blockK_normal (id : Nat) (Q : Bx (Exit → Env → GS → Prop)) (env : Env) (σ : GS) : @blockK id Q .normal env σ = Q.val .normal env σ := rfl
@[simp] theorem blockK_ret (id : Nat) (Q : Bx (Exit → Env → GS → Prop)) (env : Env) (σ : GS) : @blockK id Q .ret env σ = Q.val .ret env σ := rfl
@[simp] theorem blockK_own (id : Nat) (Q : Bx (Exit → Env → GS → Prop)) (env : Env) (σ : GS) : @blockK id Q (.exit id) env σ = Q.val .normal env σ := by simp [blockK]
@[simp] theorem blockK_other (id i : Nat) (Q : Bx (Exit → Env → GS → Prop)) (env : Env) (σ : GS) (h : ¬ i = id) : @blockK id Q (.exit i) env σ = Q.val (.exit i) env σ := by
  simp [blockK, h]

section code
variable (P : Program) (env : Env) (σ : GS) (Q : Bx (Exit → Env → GS → Prop))
@[simp] theorem exB_skip : @exB P ⟨.skip⟩ env σ Q = Q.val .normal env σ := rfl
@[simp] theorem exB_ret : @exB P ⟨.ret⟩ env σ Q = Q.val .ret env σ := rfl
@[simp] theorem exB_exit (id : Nat) : @exB P ⟨.exit id⟩ env σ Q = Q.val (.exit id) env σ := rfl
@[simp] theorem exB_seq (a b : GCode) : @exB P ⟨.seq a b⟩ env σ Q = @exB P ⟨a⟩ env σ ⟨@seqK P ⟨b⟩ Q⟩ := rfl
@[simp] theorem exB_region (st : List GStep) : @exB P ⟨.region st⟩ env σ Q = @stB P ⟨st⟩ env σ ⟨Q.val .normal⟩ := rfl
@[simp] theorem exB_block (id : Nat) (c : GCode) : @exB P ⟨.block id c⟩ env σ Q = @exB P ⟨c⟩ env σ ⟨@blockK id Q⟩ := rfl
@[simp] theorem exB_loop (c : GCode) : @exB P ⟨.loop c⟩ env σ Q = @loopB P env σ ⟨c⟩ Q := rfl
@[simp] theorem exB_range (f : GArg) (ps : List Tmp) (asg body : Code) : @exB P ⟨.rangeF f ps asg body⟩ env σ Q = @rangeB P (garg env f) env σ ⟨(ps, asg, body)⟩ Q := by
  simp only [exB, gexec, rangeB]
  try (cases garg env f <;> rfl)
@[simp] theorem exB_cond (c : GArg) (a b : GCode) : @exB P ⟨.cond c a b⟩ env σ Q = @runC (garg env c) ⟨@pickP ⟨@exB P ⟨a⟩ env σ Q⟩ ⟨@exB P ⟨b⟩ env σ Q⟩⟩ := by
  simp only [exB, gexec, runC]
  cases hg : garg env c with
  | bool t => cases t <;> simp [exB]
  | _ => simp
end code
section steps
variable (P : Program) (i : Nat) (d : Option Tmp) (az : List GArg) (rest : List GStep) (env : Env) (σ : GS) (K : Bx (Env → GS → Prop))
@[simp] theorem stB_nil : @stB P ⟨[]⟩ env σ K = K.val env σ := rfl
@[simp] theorem gs_pure (k : PK) : @stB P ⟨⟨i, ⟨d, none, .pure k, az⟩, []⟩ :: rest⟩ env σ K = @runO _ (gpure k (az.map (garg env))) ⟨fun v => @runE (gput env d v) σ ⟨fun e s => @stB P ⟨rest⟩ e s K⟩⟩ := by
  simp only [stB, gsteps, gop, gon, gdo, runO, runE, grec, true_and]
  cases gpure k (az.map (garg env)) <;> simp
@[simp] theorem gs_load (k : LK) : @stB P ⟨⟨i, ⟨d, none, .load k, az⟩, []⟩ :: rest⟩ env σ K = @runO _ (gload k (az.map (garg env)) σ) ⟨fun v => @runE (gput env d v) σ ⟨fun e s => @stB P ⟨rest⟩ e s K⟩⟩ := by
  simp only [stB, gsteps, gop, gon, gdo, runO, runE, grec, true_and]
  cases gload k (az.map (garg env)) σ <;> simp
@[simp] theorem gs_new (k : AK) : @stB P ⟨⟨i, ⟨d, none, .new k, az⟩, []⟩ :: rest⟩ env σ K = @runO _ (galloc k (az.map (garg env))) ⟨fun p => @runE (gput env d (p.2 σ.length)) (σ ++ [p.1]) ⟨fun e s => @stB P ⟨rest⟩ e s K⟩⟩ := by
  simp only [stB, gsteps, gop, gon, gdo, runO, runE, grec, true_and]
  cases galloc k (az.map (garg env)) <;> simp
@[simp] theorem gs_imp (k : IK) : @stB P ⟨⟨i, ⟨d, none, .imp k, az⟩, []⟩ :: rest⟩ env σ K = @runO _ (gimp k (az.map (garg env)) σ) ⟨fun p => @runE (gput env d p.1) p.2 ⟨fun e s => @stB P ⟨rest⟩ e s K⟩⟩ := by
  simp only [stB, gsteps, gop, gon, gdo, runO, runE, grec, true_and]
  cases gimp k (az.map (garg env)) σ <;> simp
@[simp] theorem gs_call (f : FuncId) : @stB P ⟨⟨i, ⟨d, none, .call f, az⟩, []⟩ :: rest⟩ env σ K = @callB P f (az.map (garg env)) σ ⟨fun v s => @runE (gput env d v) s ⟨fun e s => @stB P ⟨rest⟩ e s K⟩⟩ := by
  simp only [stB, gsteps, gop, gon, gdo, callB, runE, grec, true_and]
@[simp] theorem gs_xcall (f : FuncId) : @stB P ⟨⟨i, ⟨d, none, .xcall f, az⟩, []⟩ :: rest⟩ env σ K = @xcallB P f (az.map (garg env)) σ ⟨fun v s => @runE (gput env d v) s ⟨fun e s => @stB P ⟨rest⟩ e s K⟩⟩ := by
  simp only [stB, gsteps, gop, gon, gdo, xcallB, runE, grec, true_and]
@[simp] theorem gs_callv : @stB P ⟨⟨i, ⟨d, none, .callv, az⟩, []⟩ :: rest⟩ env σ K = @callvB P (az.map (garg env)) σ ⟨fun v s => @runE (gput env d v) s ⟨fun e s => @stB P ⟨rest⟩ e s K⟩⟩ := by
  simp only [stB, gsteps, gop, gon, callvB, runE, grec, true_and]
@[simp] theorem gs_next : @stB P ⟨⟨i, ⟨d, none, .mnext, az⟩, []⟩ :: rest⟩ env σ K = @nextB (az.map (garg env)) σ ⟨fun v s => @runE (gput env d v) s ⟨fun e s => @stB P ⟨rest⟩ e s K⟩⟩ := by
  simp only [stB, gsteps, gop, gon, gdo, nextB, runE, grec, true_and]
@[simp] theorem gs_eqn (neg : Bool) : @stB P ⟨⟨i, ⟨d, none, .eqn neg, az⟩, []⟩ :: rest⟩ env σ K = @eqnB neg (az.map (garg env)) ⟨fun v => @runE (gput env d v) σ ⟨fun e s => @stB P ⟨rest⟩ e s K⟩⟩ := by
  simp only [stB, gsteps, gop, gon, gdo, eqnB, runE, grec, true_and]
@[simp] theorem gs_call_re (f : FuncId) (r : GOp) (re : List GOp) : @stB P ⟨⟨i, ⟨d, none, .call f, az⟩, r :: re⟩ :: rest⟩ env σ K = @callB P f (az.map (garg env)) σ ⟨fun v s => @runE (gput env d v) s ⟨fun e s => recB (r :: re) e σ s ∧ @stB P ⟨rest⟩ e s K⟩⟩ := by
  simp only [stB, gsteps, gop, gon, gdo, callB, runE, recB]
@[simp] theorem gs_callv_re (r : GOp) (re : List GOp) : @stB P ⟨⟨i, ⟨d, none, .callv, az⟩, r :: re⟩ :: rest⟩ env σ K = @callvB P (az.map (garg env)) σ ⟨fun v s => @runE (gput env d v) s ⟨fun e s => recB (r :: re) e σ s ∧ @stB P ⟨rest⟩ e s K⟩⟩ := by
  simp only [stB, gsteps, gop, gon, callvB, runE, recB]
@[simp] theorem gs_imp_re (k : IK) (r : GOp) (re : List GOp) : @stB P ⟨⟨i, ⟨d, none, .imp k, az⟩, r :: re⟩ :: rest⟩ env σ K = @runO _ (gimp k (az.map (garg env)) σ) ⟨fun p => @runE (gput env d p.1) p.2 ⟨fun e s => recB (r :: re) e σ s ∧ @stB P ⟨rest⟩ e s K⟩⟩ := by
  simp only [stB, gsteps, gop, gon, gdo, runO, runE, recB]
  cases gimp k (az.map (garg env)) σ <;> simp
@[simp] theorem gs_guard (t : Tmp) (w : Bool) (k : Kind) (re : List GOp) : @stB P ⟨⟨i, ⟨d, some (t, w), k, az⟩, re⟩ :: rest⟩ env σ K = @runO _ (gon env (some (t, w))) ⟨fun b => @runC (.bool b) ⟨@pickP ⟨@stB P ⟨⟨i, ⟨d, none, k, az⟩, re⟩ :: rest⟩ env σ K⟩
    ⟨@runE (gput env d (.tuple [])) σ ⟨fun e s => grec re e σ s ∧ @stB P ⟨rest⟩ e s K⟩⟩⟩⟩ := by
  simp only [stB, gsteps, gop, runO]
  cases hg : gon env (some (t, w)) with
  | none => simp
  | some b =>
    cases b with
    | true =>
      simp
      exact Iff.rfl
    | false => simp [runE, stB]
end steps
@[simp] theorem grec_nil (env : Env) (σ σ' : GS) : grec [] env σ σ' = True := rfl
@[simp] theorem recB_nil (env : Env) (σ σ' : GS) : recB [] env σ σ' = True := rfl
@[simp] theorem recB_cons (g : GOp) (l : List GOp) (env : Env) (σ σ' : GS) : recB (g :: l) env σ σ' = (grec1 g env σ σ' ∧ recB l env σ σ') := rfl
@[simp] theorem gput_some (env : Env) (t : Tmp) (v : DV) : gput env (some t) v = env.set t v := rfl
@[simp] theorem gput_none (env : Env) (v : DV) : gput env none v = env := rfl
@[simp] theorem garg_tmp (env : Env) (t : Tmp) : garg env (.tmp t) = env[t]?.getD (.tuple []) := rfl
@[simp] theorem garg_const (env : Env) (d : DV) : garg env (.const d) = d := rfl

@[simp] theorem gp_id (x : DV) : gpure .id [x] = some x := rfl
@[simp] theorem gp_pick (c : Bool) (a b : DV) : gpure .pick [.bool c, a, b] = some (if c then a else b) := rfl
@[simp] theorem gp_bin (op : BinOp) (t : ET) (x y : DV) : gpure (.bin op t) [x, y] = gbin op t x y := rfl
@[simp] theorem gp_un (op : UnOp) (x : DV) : gpure (.un op) [x] = gun op x := rfl
@[simp] theorem gp_conv (k j : IntKind) (n : Int) : gpure (.conv k) [.int j n] = some (.int k (k.wrap n)) := rfl
@[simp] theorem gp_build (z : List DV) (pl : List (Nat × Nat)) (ps : List DV) : gpure (.build z pl) ps = (gfill pl z ps).map .agg := by unfold gpure; cases ps <;> rfl
@[simp] theorem gp_mkfunc (f nf : Nat) (xs : List DV) : gpure (.mkfunc f nf) xs = some (.func f (xs.take nf) (xs.drop nf)) := by unfold gpure; cases xs <;> rfl
@[simp] theorem gp_faddr (n id o : Nat) : gpure (.faddr n) [.ptr id o] = some (.ptr id (o + n)) := rfl
@[simp] theorem gp_field_t (off n : Nat) (cs : List DV) : gpure (.field off n true) [.agg cs] = if off + n ≤ cs.length then some (.agg ((cs.drop off).take n)) else none := rfl
@[simp] theorem gp_field_f (off n : Nat) (cs : List DV) : gpure (.field off n false) [.agg cs] = cs[off]? := rfl
@[simp] theorem gp_extract (i : Nat) (vs : List DV) : gpure (.extract i) [.tuple vs] = vs[i]? := rfl
@[simp] theorem gp_len_slice (id off len sz : Nat) (cap : Option Nat) : gpure .len [.slice id off len sz cap] = some (.int .i64 len) := rfl
@[simp] theorem gp_len_nil : gpure .len [.nils] = some (.int .i64 0) := rfl
@[simp] theorem gp_mx (k j : IntKind) (a b : Int) : gpure .mx [.int k a, .int j b] = some (.int k (max a b)) := by
  simp only [gpure, gt_iff_lt]; congr 2; omega
@[simp] theorem gp_mn (k j : IntKind) (a b : Int) : gpure .mn [.int k a, .int j b] = some (.int k (min a b)) := by
  simp only [gpure]; congr 2; omega
@[simp] theorem gp_nilck_ptr (id o : Nat) : gpure .nilck [.ptr id o] = some (.ptr id o) := rfl
@[simp] theorem gp_nilck_func (f : Nat) (a b : List DV) : gpure .nilck [.func f a b] = some (.func f a b) := rfl
@[simp] theorem gp_nilck_map (m : Nat) : gpure .nilck [.map m] = some (.map m) := rfl

section bin
variable (t : ET) (k : IntKind) (a b : Int)
@[simp] theorem gb_add : gbin .add t (.int k a) (.int k b) = some (.int k (k.wrap (a + b))) := by simp [gbin, gint]
@[simp] theorem gb_sub : gbin .sub t (.int k a) (.int k b) = some (.int k (k.wrap (a - b))) := by simp [gbin, gint]
@[simp] theorem gb_mul : gbin .mul t (.int k a) (.int k b) = some (.int k (k.wrap (a * b))) := by simp [gbin, gint]
@[simp] theorem gb_quo : gbin .quo t (.int k a) (.int k b) = if b = 0 then none else some (.int k (k.wrap (a.tdiv b))) := by simp [gbin, gint]
@[simp] theorem gb_rem : gbin .rem t (.int k a) (.int k b) = if b = 0 then none else some (.int k (a.tmod b)) := by simp [gbin, gint]
@[simp] theorem gb_and : gbin .and t (.int k a) (.int k b) = some (.int k (bits .and k a b)) := by simp [gbin, gint]
@[simp] theorem gb_or : gbin .or t (.int k a) (.int k b) = some (.int k (bits .or k a b)) := by simp [gbin, gint]
@[simp] theorem gb_xor : gbin .xor t (.int k a) (.int k b) = some (.int k (bits .xor k a b)) := by simp [gbin, gint]
@[simp] theorem gb_eql : gbin .eql t (.int k a) (.int k b) = some (.bool (decide (a = b))) := by simp [gbin, gint]; rfl
@[simp] theorem gb_neq : gbin .neq t (.int k a) (.int k b) = some (.bool (decide (a ≠ b))) := by simp [gbin, gint]; rfl
@[simp] theorem gb_lss : gbin .lss t (.int k a) (.int k b) = some (.bool (decide (a < b))) := by simp [gbin, gint]
@[simp] theorem gb_leq : gbin .leq t (.int k a) (.int k b) = some (.bool (decide (a ≤ b))) := by simp [gbin, gint]
@[simp] theorem gb_gtr : gbin .gtr t (.int k a) (.int k b) = some (.bool (decide (b < a))) := by simp [gbin, gint]
@[simp] theorem gb_geq : gbin .geq t (.int k a) (.int k b) = some (.bool (decide (b ≤ a))) := by simp [gbin, gint]
@[simp] theorem gb_shl (j : IntKind) : gbin .shl t (.int k a) (.int j b) = if b < 0 then none else some (.int k (k.wrap (a * 2 ^ (min b.toNat k.bits)))) := by simp [gbin, gshift]
@[simp] theorem gb_shr (j : IntKind) : gbin .shr t (.int k a) (.int j b) = if b < 0 then none else some (.int k (a.fdiv (2 ^ (min b.toNat k.bits)))) := by simp [gbin, gshift]
@[simp] theorem gb_eqb (p q : Bool) : gbin .eql .bool (.bool p) (.bool q) = some (.bool (p == q)) := rfl
@[simp] theorem gb_neb (p q : Bool) : gbin .neq .bool (.bool p) (.bool q) = some (.bool (p != q)) := rfl
@[simp] theorem gu_not (p : Bool) : gun .not (.bool p) = some (.bool !p) := rfl
@[simp] theorem gu_neg : gun .neg (.int k a) = some (.int k (k.wrap (-a))) := by simp [gun]
end bin
@[simp] theorem gon_some_bool (t : Tmp) (w : Bool) (env : Env) : gon env (some (t, w)) = match env[t]? with | some (.bool b) => some (b == w) | some (.tuple _) => some false | _ => none := rfl

theorem gloop_intro {P : Program} {c : Bx GCode} {env : Env} {σ : GS} {k : Bx (Exit → Env → GS → Prop)} (e1 : Env) (n : Nat) (I : Nat → Env → GS → Prop) (hle : leL e1 env) (h0 : I n e1 σ)
    (hr : ∀ n env σ, I n env σ → gexec P c.val env σ fun e env' σ' => match e with | .normal => ∃ m e1, m < n ∧ leL e1 env' ∧ I m e1 σ' | e => k.val e env' σ') : @loopB P env σ c k := by
  refine ⟨I, ⟨n, e1, leL_le hle, h0⟩, fun n env σ hi => gexec_mono (hr n env σ hi) fun x e s hh => ?_⟩
  cases x <;> first | exact hh | skip
  obtain ⟨m, e2, h1, h2, h3⟩ := hh
  exact ⟨m, e2, h1, leL_le h2, h3⟩
/-- What a function returns. -/
def gretB (rs : List RK) [Post : Bx (DV → GS → Prop)] (e : Exit) (env : Env) (σ : GS) : Prop := gret rs Post.val e env σ
@[simp] theorem gretB_ret (rs : List RK) (Post : Bx (DV → GS → Prop)) (env : Env) (σ : GS) : @gretB rs Post .ret env σ = @runO _ (gresL env σ rs) ⟨fun vs => Post.val (gresV vs) σ⟩ := by
  simp only [gretB, gret, runO]; cases gresL env σ rs <;> simp
@[simp] theorem gretB_normal (rs : List RK) (Post : Bx (DV → GS → Prop)) (env : Env) (σ : GS) : @gretB rs Post .normal env σ = @runO _ (gresL env σ rs) ⟨fun vs => Post.val (gresV vs) σ⟩ := by
  simp only [gretB, gret, runO]; cases gresL env σ rs <;> simp
theorem gcall_ofB {P : Program} {σ : GS} {f : FuncId} {fn : Func} {gf : GFun} (hm : P.follows .mixedOrders = true) (hf : P.funcs[f]? = some fn) (hname : (fn.name == "runtime.NumGoroutine") = false) (hc : compF P fn = some gf) {args : List DV} {Post : DV → GS → Prop}
    (h : @exB P ⟨gf.body⟩ (genv0 args gf.ntmps) σ ⟨@gretB gf.results ⟨Post⟩⟩) : GCall P f args σ Post := gcall_of hm hf hname hc h
@[simp] theorem gres_one (env : Env) (σ : GS) (t : Tmp) : gresL env σ [.tmp t] = some [env[t]?.getD (.tuple [])] := rfl
@[simp] theorem gres_two (env : Env) (σ : GS) (t u : Tmp) : gresL env σ [.tmp t, .tmp u] = some [env[t]?.getD (.tuple []), env[u]?.getD (.tuple [])] := rfl
@[simp] theorem gresV_one (v : DV) : gresV [v] = v := rfl
@[simp] theorem gresV_two (v u : DV) : gresV [v, u] = .tuple [v, u] := rfl
@[simp] theorem leL_nil : leL [] [] = True := rfl
@[simp] theorem leL_cons (x y : DV) (a b : List DV) : leL (x :: a) (y :: b) = ((x = .any ∨ x = y) ∧ leL a b) := rfl
end Go.Gh
namespace Go.Gh
open Go.RowKit
set_option linter.unusedVariables false
set_option linter.unusedSimpArgs false
/-- The first n objects stay. -/
structure Fr (n : Nat) (σ σ' : GS) : Prop where
  len : n ≤ σ'.length
  get : ∀ i, i < n → σ'[i]? = σ[i]?
theorem Fr.refl {n : Nat} {σ : GS} (h : n ≤ σ.length) : Fr n σ σ := ⟨h, fun _ _ => rfl⟩
theorem Fr.rfl' {σ : GS} : Fr σ.length σ σ := .refl (Nat.le_refl _)
theorem Fr.trans {n : Nat} {a b c : GS} (h : Fr n a b) (k : Fr n b c) : Fr n a c := ⟨k.len, fun i hi => (k.get i hi).trans (h.get i hi)⟩
theorem Fr.mono {n m : Nat} {a b : GS} (h : Fr n a b) (k : m ≤ n) : Fr m a b := ⟨Nat.le_trans k h.len, fun i hi => h.get i (by omega)⟩
theorem Fr.app {n : Nat} {a b : GS} (h : Fr n a b) (τ : GS) : Fr n a (b ++ τ) := ⟨by have := h.len; simp; omega, fun i hi => by rw [List.getElem?_append_left (by have := h.len; omega)]; exact h.get i hi⟩
theorem Fr.set {n : Nat} {a b : GS} (h : Fr n a b) {i : Nat} (hi : n ≤ i) (o : GObj) : Fr n a (b.set i o) := ⟨by have := h.len; simpa using this, fun j hj => by rw [List.getElem?_set_ne (by omega)]; exact h.get j hj⟩
theorem get_dom {α : Type} {l : List α} {i : Nat} {x : α} (h : l[i]? = some x) : i < l.length := by
  rcases Nat.lt_or_ge i l.length with h' | h'
  · exact h'
  · rw [List.getElem?_eq_none h'] at h; cases h
theorem Fr.at_ {σ σ' : GS} (h : Fr σ.length σ σ') {i : Nat} {o : GObj} (k : σ[i]? = some o) : σ'[i]? = some o := (h.get i (get_dom k)).trans k
theorem getE_append {σ τ : GS} {i : Nat} {o : GObj} (h : σ[i]? = some o) : (σ ++ τ)[i]? = some o := by
  rw [List.getElem?_append_left (get_dom h)]; exact h
theorem get_lt {α : Type} {xs : List α} {i : Nat} (h : i < xs.length) : ∃ x, xs[i]? = some x := ⟨xs[i], List.getElem?_eq_getElem h⟩
/-- How an element reads stays when later objects change. -/
def RMono {α : Type} (R : GS → List DV → α → Prop) : Prop := ∀ σ σ' c x, Fr σ.length σ σ' → R σ c x → R σ' c x
theorem RInt.mono {k : IntKind} : RMono (RInt k) := fun _ _ _ _ _ h => h
/-- A list of truths. -/
def RBool (_ : GS) (c : List DV) (b : Bool) : Prop := c = [.bool b]
theorem RBool.mono : RMono RBool := fun _ _ _ _ _ h => h
abbrev SBool := Sl 1 RBool
theorem Sl.fr {α : Type} {sz : Nat} {R : GS → List DV → α → Prop} (hR : RMono R) {σ σ' : GS} {s : DV} {xs : List α} (h : Sl sz R σ s xs) (hf : Fr σ.length σ σ') : Sl sz R σ' s xs := by
  rcases h with h | ⟨id, off, cap, ro, cs, h1, h2, h3, h4⟩
  · exact .inl h
  · exact .inr ⟨id, off, cap, ro, cs, h1, hf.at_ h2, h3, fun i x hi => hR _ _ _ _ hf (h4 i x hi)⟩
theorem SInt.fr {σ σ' : GS} {s : DV} {xs : List Int} (h : SInt σ s xs) (hf : Fr σ.length σ σ') : SInt σ' s xs := Sl.fr RInt.mono h hf
theorem SInt.app {σ : GS} {s : DV} {xs : List Int} (h : SInt σ s xs) (τ : GS) : SInt (σ ++ τ) s xs := h.fr (Fr.rfl'.app τ)
theorem SBool.fr {σ σ' : GS} {s : DV} {xs : List Bool} (h : SBool σ s xs) (hf : Fr σ.length σ σ') : SBool σ' s xs := Sl.fr RBool.mono h hf
/-- The address of an element, and its cells. -/
theorem Sl.at_ {α : Type} {sz : Nat} {R : GS → List DV → α → Prop} {σ : GS} {s : DV} {xs : List α} (h : Sl sz R σ s xs) {i : Nat} {x : α} (hi : xs[i]? = some x) {k : IntKind} :
    ∃ id off c, gpure (.iaddr sz) [s, .int k (i : Int)] = some (.ptr id off) ∧ c.length = sz ∧ R σ c x ∧ (∀ j, j < sz → gload (.load 1 false) [.ptr id (off + j)] σ = c[j]?) ∧ gload (.load sz true) [.ptr id off] σ = some (.agg c) := by
  have hlt := get_dom hi
  rcases h with ⟨_, rfl⟩ | ⟨id, off, cap, ro, cs, rfl, h1, h2, h3⟩
  · simp at hlt
  · have h4 : (i + 1) * sz ≤ xs.length * sz := Nat.mul_le_mul_right _ hlt
    rw [Nat.add_mul] at h4
    refine ⟨id, off + i * sz, (cs.drop (off + i * sz)).take sz, ?_, ?_, h3 i x hi, ?_, ?_⟩
    · simp only [gpure]
      rw [if_pos (by omega)]; simp
    · simp; omega
    · intro j hj
      simp [gload, h1, List.getElem?_take, hj]
    · simp only [gload, h1]
      rw [if_pos trivial, if_pos (by omega)]
theorem SInt.get {σ : GS} {s : DV} {xs : List Int} (h : SInt σ s xs) {i : Nat} {x : Int} (hi : xs[i]? = some x) {k : IntKind} :
    ∃ id off, gpure (.iaddr 1) [s, .int k (i : Int)] = some (.ptr id off) ∧ gload (.load 1 false) [.ptr id off] σ = some (.int .i64 x) := by
  obtain ⟨id, off, c, h1, h2, h3, h4, h5⟩ := Sl.at_ h hi (k := k)
  refine ⟨id, off, h1, ?_⟩
  have := h4 0 (by omega)
  rw [RInt] at h3
  subst h3
  simpa using this
theorem SBool.get {σ : GS} {s : DV} {xs : List Bool} (h : SBool σ s xs) {i : Nat} {x : Bool} (hi : xs[i]? = some x) {k : IntKind} :
    ∃ id off, gpure (.iaddr 1) [s, .int k (i : Int)] = some (.ptr id off) ∧ gload (.load 1 false) [.ptr id off] σ = some (.bool x) := by
  obtain ⟨id, off, c, h1, h2, h3, h4, h5⟩ := Sl.at_ h hi (k := k)
  refine ⟨id, off, h1, ?_⟩
  have := h4 0 (by omega)
  rw [RBool] at h3
  subst h3
  simpa using this
theorem wrap_small {n : Int} (h1 : -9223372036854775808 ≤ n) (h2 : n < 9223372036854775808) : IntKind.i64.wrap n = n := wrap_i64_in h1 (by omega)
theorem wrap_suc {n : Nat} (h : n < 9223372036854775807) : IntKind.i64.wrap ((n : Int) + 1) = ((n + 1 : Nat) : Int) := by rw [wrap_i64_in] <;> omega
@[simp] theorem wrap_one : IntKind.i64.wrap 1 = 1 := by rfl
@[simp] theorem wrap_zero : IntKind.i64.wrap 0 = 0 := by rfl
/-- An environment of which some slots matter. -/
def mkEnv (n : Nat) (l : List (Nat × DV)) : Env := l.foldl (fun e p => e.set p.1 p.2) (List.replicate n .any)
def forK (N i : Nat) [I : Bx (Nat → Env → GS → Prop)] [Q : Bx (Exit → Env → GS → Prop)] (e : Exit) (env : Env) (σ : GS) : Prop := match e with | .normal => i < N ∧ ∃ e1, leL e1 env ∧ I.val (i + 1) e1 σ | e => Q.val e env σ
@[simp] theorem forK_ret (N i : Nat) (I : Bx (Nat → Env → GS → Prop)) (Q : Bx (Exit → Env → GS → Prop)) (env : Env) (σ : GS) : @forK N i I Q .ret env σ = Q.val .ret env σ := rfl
@[simp] theorem forK_exit (N i j : Nat) (I : Bx (Nat → Env → GS → Prop)) (Q : Bx (Exit → Env → GS → Prop)) (env : Env) (σ : GS) : @forK N i I Q (.exit j) env σ = Q.val (.exit j) env σ := rfl
theorem forK_go {N i : Nat} {I : Bx (Nat → Env → GS → Prop)} {Q : Bx (Exit → Env → GS → Prop)} {env : Env} {σ : GS} (e1 : Env) (h1 : i < N) (h2 : leL e1 env) (h3 : I.val (i + 1) e1 σ) : @forK N i I Q .normal env σ := ⟨h1, e1, h2, h3⟩
/-- A loop that counts: at most N rounds. -/
theorem gfor {P : Program} {c : Bx GCode} {env : Env} {σ : GS} {k : Bx (Exit → Env → GS → Prop)} (N : Nat) (I : Nat → Env → GS → Prop) (e1 : Env) (hle : leL e1 env) (h0 : I 0 e1 σ)
    (hr : ∀ i env σ, i ≤ N → I i env σ → @exB P c env σ ⟨@forK N i ⟨I⟩ k⟩) : @loopB P env σ c k := by
  refine gloop_intro e1 N (fun n env σ => ∃ i, i ≤ N ∧ n = N - i ∧ I i env σ) hle ⟨0, Nat.zero_le _, rfl, h0⟩ ?_
  rintro n env σ ⟨i, hi, rfl, hI⟩
  refine gexec_mono (hr i env σ hi hI) fun e env σ h => ?_
  cases e <;> first | exact h | skip
  obtain ⟨h1, e2, h2, h3⟩ := h
  exact ⟨N - (i + 1), e2, by omega, h2, i + 1, by omega, rfl, h3⟩
end Go.Gh
namespace Go.Gh
open Go.RowKit
set_option linter.unusedVariables false
set_option linter.unusedSimpArgs false
abbrev ints (xs : List Int) : List DV := xs.map (.int .i64)
abbrev bools (xs : List Bool) : List DV := xs.map .bool
theorem ints_flat (xs : List Int) : (ints xs).all DV.flat = true := by simp [ints, DV.flat]
theorem over_one {cs : List DV} {i : Nat} {v : DV} (h : i < cs.length) : over cs i [v] = cs.set i v := by
  unfold over
  rw [List.set_eq_take_append_cons_drop, if_pos h]
  simp
theorem over_end {a b c : List DV} : over (a ++ c) a.length b = a ++ b ++ c.drop b.length := by
  unfold over
  simp
theorem Sl.of {α : Type} {f : α → DV} {R : GS → List DV → α → Prop} (hR : ∀ σ x, R σ [f x] x) {σ : GS} {id off : Nat} {ro : Bool} {cap : Option Nat} {pre xs : List α} {rest : List DV} (h : σ[id]? = some (.row ro (pre.map f ++ (xs.map f ++ rest)))) (ho : off = pre.length) : Sl 1 R σ (.slice id off xs.length 1 cap) xs := by
  refine .inr ⟨id, off, cap, ro, _, rfl, h, by simp; omega, fun i x hi => ?_⟩
  have hlt := get_dom hi
  subst ho
  have : ((pre.map f ++ (xs.map f ++ rest)).drop (pre.length + i * 1)).take 1 = [f x] := by
    apply List.ext_getElem?
    intro j
    cases j with
    | zero =>
      obtain ⟨_, rfl⟩ := List.getElem?_eq_some_iff.1 hi
      simp [List.getElem?_append, hlt]
    | succ j => simp [List.getElem?_take]
  rw [this]; exact hR _ _
theorem SBool.of {σ : GS} {id : Nat} {ro : Bool} {cap : Option Nat} {bs : List Bool} (h : σ[id]? = some (.row ro (bools bs))) : SBool σ (.slice id 0 bs.length 1 cap) bs :=
  Sl.of (f := .bool) (pre := []) (rest := []) (fun _ _ => rfl) (by simpa using h) rfl
theorem iaddr_own {id n sz i : Nat} {k : IntKind} {cap : Option Nat} (h : i < n) : gpure (.iaddr sz) [.slice id 0 n sz cap, .int k (i : Int)] = some (.ptr id (i * sz)) := by
  simp only [gpure]
  rw [if_pos (by omega)]; simp
theorem store_bool {σ : GS} {id i : Nat} {bs : List Bool} {b : Bool} (h : σ[id]? = some (.row false (bools bs))) (hi : i < bs.length) : gimp (.store 1) [.ptr id i, .bool b] σ = some (.tuple [], σ.set id (.row false (bools (bs.set i b)))) := by
  simp only [gimp, h, DV.cells]
  rw [if_pos ⟨rfl, by simp; omega, rfl⟩, over_one (by simpa using hi)]
  simp [bools, List.map_set]
@[simp] theorem gon_none (env : Env) : gon env none = some true := rfl
@[simp] theorem grec1_load (d : Option Tmp) (k : LK) (az : List GArg) (env : Env) (σ σ' : GS) : grec1 ⟨d, none, .load k, az⟩ env σ σ' = (gload k (az.map (garg env)) σ' = gload k (az.map (garg env)) σ) := rfl
@[simp] theorem grec_cons (g : GOp) (l : List GOp) (env : Env) (σ σ' : GS) : grec (g :: l) env σ σ' = (grec1 g env σ σ' ∧ grec l env σ σ') := rfl
@[simp] theorem grec1_guard (d : Option Tmp) (t : Tmp) (w : Bool) (k : LK) (az : List GArg) (env : Env) (σ σ' : GS) : grec1 ⟨d, some (t, w), .load k, az⟩ env σ σ' = match gon env (some (t, w)) with | some true => gload k (az.map (garg env)) σ' = gload k (az.map (garg env)) σ | some false => True | none => False := rfl
@[simp] theorem ld_box {σ τ : GS} {ro : Bool} {cs : List DV} {k : Nat} : gload (.load 1 false) [.ptr σ.length k] (σ ++ .row ro cs :: τ) = cs[k]? := by simp [gload]
@[simp] theorem ld_box1 {σ τ : GS} {ro : Bool} {cs : List DV} {k : Nat} {a : GObj} : gload (.load 1 false) [.ptr (σ.length + 1) k] (σ ++ a :: .row ro cs :: τ) = cs[k]? := by simp [gload]
theorem ld_at {σ : GS} {id k : Nat} {ro : Bool} {cs : List DV} (h : σ[id]? = some (.row ro cs)) : gload (.load 1 false) [.ptr id k] σ = cs[k]? := by simp [gload, h]
@[simp] theorem ga_box (cs : List DV) : galloc .box [.agg cs] = some (.row false cs, fun id => .ptr id 0) := rfl
@[simp] theorem ga_alloc (z : List DV) : galloc (.alloc z) [] = some (.row false z, fun id => .ptr id 0) := rfl
/-- What a slice of numbers holds. -/
theorem SInt.read {σ : GS} {s : DV} {xs : List Int} (h : SInt σ s xs) : gread 1 s σ = some (ints xs) ∧ glen s = xs.length := by
  rcases h with ⟨rfl | rfl, rfl⟩ | ⟨id, off, cap, ro, cs, rfl, h1, h2, h3⟩
  · exact ⟨rfl, rfl⟩
  · exact ⟨rfl, rfl⟩
  · refine ⟨?_, rfl⟩
    by_cases h0 : xs.length = 0
    · simp [gread, List.length_eq_zero_iff.1 h0]
    · simp only [gread, if_neg h0, if_pos, h1]
      rw [if_pos (by omega)]
      congr 1
      apply List.ext_getElem?
      intro j
      by_cases hj : j < xs.length
      · obtain ⟨x, hx⟩ := get_lt hj
        have h4 : (cs.drop (off + j * 1)).take 1 = [DV.int .i64 x] := h3 j x hx
        have h5 : ((cs.drop (off + j * 1)).take 1)[0]? = some (DV.int .i64 x) := by rw [h4]; rfl
        rw [List.getElem?_take] at h5 ⊢
        simp at h5
        obtain ⟨_, rfl⟩ := List.getElem?_eq_some_iff.1 hx
        simp [hj, h5]
      · rw [List.getElem?_eq_none (by simp; omega), List.getElem?_eq_none (by simp; omega)]
/-- A slice of numbers of one's own, in an object from the n-th on. -/
def OInt (n : Nat) (σ : GS) (s : DV) (xs : List Int) : Prop :=
  (s = .nils ∧ xs = []) ∨ ∃ id cap rest, n ≤ id ∧ s = .slice id 0 xs.length 1 cap ∧ σ[id]? = some (.row false (ints xs ++ rest)) ∧ ∀ c, cap = some c → c ≤ xs.length + rest.length
theorem OInt.nil {n : Nat} {σ : GS} : OInt n σ .nils [] := .inl ⟨rfl, rfl⟩
theorem OInt.fr {n : Nat} {σ σ' : GS} {s : DV} {xs : List Int} (h : OInt n σ s xs) (hf : Fr σ.length σ σ') : OInt n σ' s xs := by
  rcases h with h | ⟨id, cap, rest, h1, h2, h3, h4⟩
  · exact .inl h
  · exact .inr ⟨id, cap, rest, h1, h2, hf.at_ h3, h4⟩
/-- The object that a slice lies in. -/
def DV.has (s : DV) (i : Nat) : Prop := ∃ off len sz cap, s = .slice i off len sz cap
theorem OInt.append {n : Nat} {σ : GS} {s x : DV} {xs ys : List Int} (h : OInt n σ s xs) (hx : SInt σ x ys) (hn : n ≤ σ.length) (hl : xs.length + ys.length < 2 ^ 40) :
    ∃ s' σ', gimp (.append 1 8) [s, x] σ = some (s', σ') ∧ OInt n σ' s' (xs ++ ys) ∧ Fr n σ σ' ∧ σ.length ≤ σ'.length ∧ (∀ i, i < σ.length → ¬ s.has i → σ'[i]? = σ[i]?) ∧ (∀ i, s'.has i → s.has i ∨ σ.length ≤ i) := by
  obtain ⟨hr, hg⟩ := hx.read
  have hgo : ∀ m, m ≤ xs.length + ys.length → growOk m 8 = true := by intro m hm; simp [growOk]; omega
  by_cases h0 : ys.length = 0
  · have := List.length_eq_zero_iff.1 h0
    subst this
    refine ⟨s, σ, ?_, by simpa using h, .refl hn, Nat.le_refl _, fun _ _ _ => rfl, fun _ hi => .inl hi⟩
    rcases h with ⟨rfl, rfl⟩ | ⟨id, cap, rest, h1, rfl, h2, h3⟩
    · simp [gimp, gappend, hr, hg]
    · simp [gimp, gappend, hr, hg]
  rcases h with ⟨rfl, rfl⟩ | ⟨id, cap, rest, h1, rfl, h2, h3⟩
  · refine ⟨.slice σ.length 0 ys.length 1 none, σ ++ [.row false (ints ys)], ?_, ?_, (Fr.refl hn).app _, by simp, fun i hi _ => List.getElem?_append_left hi, fun i ⟨_, _, _, _, e⟩ => by cases e; exact .inr (Nat.le_refl _)⟩
    · simp [gimp, gappend, hr, hg, h0, hgo ys.length (by omega)]
    · exact .inr ⟨σ.length, none, [], hn, by simp, by simp, by simp⟩
  · have hid := get_dom h2
    have hrd : gread 1 (.slice id 0 xs.length 1 cap) σ = some (ints xs) := by
      have : SInt σ (.slice id 0 xs.length 1 cap) xs := Sl.of (f := .int .i64) (pre := []) (fun _ _ => rfl) (by simpa using h2) rfl
      exact this.read.1
    have hfl := ints_flat ys
    have hnew : ∃ s' σ', (s' = DV.slice σ.length 0 (xs.length + ys.length) 1 none ∧ (σ' = σ ++ [.row false (ints xs ++ ints ys)] ∨ σ' = σ.set id .dead ++ [.row false (ints xs ++ ints ys)])) ∧ gimp (.append 1 8) [.slice id 0 xs.length 1 cap, x] σ = some (s', σ') ∨ (∃ c, cap = some c ∧ xs.length + ys.length ≤ c) := by
      cases cap with
      | none =>
        refine ⟨_, _, .inl ⟨⟨rfl, .inr rfl⟩, ?_⟩⟩
        simp only [gimp, gappend, hr, hg, if_neg h0, if_pos, h2, hrd]
        rw [if_pos ⟨hgo _ (Nat.le_refl _), hfl⟩]
      | some c =>
        by_cases hc : xs.length + ys.length ≤ c
        · exact ⟨.any, σ, .inr ⟨c, rfl, hc⟩⟩
        · refine ⟨_, _, .inl ⟨⟨rfl, .inl rfl⟩, ?_⟩⟩
          simp only [gimp, gappend, hr, hg, if_neg h0, if_pos, if_neg hc, hrd]
          rw [if_pos (hgo _ (Nat.le_refl _))]
    obtain ⟨s', σ', hcase⟩ := hnew
    rcases hcase with ⟨⟨rfl, hσ⟩, hrun⟩ | ⟨c, rfl, hc⟩
    · refine ⟨_, _, hrun, ?_, ?_, ?_, ?_, fun i ⟨_, _, _, _, e⟩ => by cases e; exact .inr (Nat.le_refl _)⟩
      · refine .inr ⟨σ.length, none, [], hn, by simp, ?_, by simp⟩
        rcases hσ with rfl | rfl <;> simp
      · rcases hσ with rfl | rfl
        · exact (Fr.refl hn).app _
        · exact ((Fr.refl hn).set h1 _).app _
      · rcases hσ with rfl | rfl <;> simp
      · intro i hi hno
        have hne : i ≠ id := fun e => hno ⟨_, _, _, _, by rw [e]⟩
        rcases hσ with rfl | rfl
        · exact List.getElem?_append_left hi
        · rw [List.getElem?_append_left (by simpa using hi), List.getElem?_set_ne (fun e => hne e.symm)]
    · have h4 := h3 c rfl
      refine ⟨.slice id 0 (xs.length + ys.length) 1 (some c), σ.set id (.row false (ints xs ++ ints ys ++ rest.drop ys.length)), ?_, ?_, (Fr.refl hn).set h1 _, by simp, ?_, fun i ⟨_, _, _, _, e⟩ => by cases e; exact .inl ⟨_, _, _, _, rfl⟩⟩
      · simp only [gimp, gappend, hr, hg, if_neg h0, if_pos, if_pos hc, h2]
        rw [if_pos ⟨by simp; omega, hfl⟩]
        have : (0 + xs.length * 1 : Nat) = (ints xs).length := by simp
        rw [this, over_end]
        simp
      · refine .inr ⟨id, some c, rest.drop ys.length, h1, by simp, by simp [hid], fun c' hc' => ?_⟩
        cases hc'; simp; omega
      · intro i hi hno
        have hne : i ≠ id := fun e => hno ⟨_, _, _, _, by rw [e]⟩
        exact List.getElem?_set_ne (fun e => hne e.symm)
theorem SInt.flat {σ : GS} {s : DV} {xs : List Int} (h : SInt σ s xs) : s.flat = true := by
  rcases h with ⟨rfl | rfl, _⟩ | ⟨id, off, cap, ro, cs, rfl, _⟩ <;> rfl
@[simp] theorem ga_one (x : Int) : galloc (.bslice 1 [.int .i64 0] 1 [(0, 1)]) [.int .i64 x] = some (.row false [.int .i64 x], fun id => .slice id 0 1 1 (some 1)) := rfl
/-- One number more, behind what is there. -/
theorem OInt.push {n : Nat} {σ : GS} {s : DV} {xs : List Int} (h : OInt n σ s xs) (x : Int) (hn : n ≤ σ.length) (hl : xs.length < 2 ^ 39) :
    ∃ s' σ', gimp (.append 1 8) [s, .slice σ.length 0 1 1 (some 1)] (σ ++ [.row false [.int .i64 x]]) = some (s', σ') ∧ OInt n σ' s' (xs ++ [x]) ∧ Fr n σ σ' ∧ σ.length ≤ σ'.length ∧ (∀ i, i < σ.length → ¬ s.has i → σ'[i]? = σ[i]?) ∧ (∀ i, s'.has i → s.has i ∨ σ.length ≤ i) := by
  have hx : SInt (σ ++ [.row false [.int .i64 x]]) (.slice σ.length 0 1 1 (some 1)) [x] := Sl.of (f := .int .i64) (pre := []) (rest := []) (ro := false) (xs := [x]) (id := σ.length) (off := 0) (cap := some 1) (fun _ _ => rfl) (by simp) rfl
  obtain ⟨s', σ', q1, q2, q3, q4, q5, q6⟩ := (h.fr (Fr.rfl'.app [.row false [.int .i64 x]])).append hx (by simp; omega) (by simp; omega)
  refine ⟨s', σ', q1, q2, ?_, by simp at q4; omega, fun i hi hno => ?_, fun i hi => (q6 i hi).imp id fun h => by simp at h; omega⟩
  · exact ((Fr.refl hn).app _).trans q3
  · rw [q5 i (by simp; omega) hno, List.getElem?_append_left hi]
end Go.Gh
namespace Go.Gh
open Go.RowKit
set_option linter.unusedVariables false
set_option linter.unusedSimpArgs false
/-- What lies below stays: so does the relation. -/
theorem Rel.above {N : Nat} {w0 : World} {ρ : Ren} {σ : GS} {w w' : World} (h : Rel N w0 ρ σ w) (k : Below w.heap.size w w') : Rel N w0 ρ σ w' ∧ Ext σ.length ρ w ρ w' := by
  have hN : N ≤ w.heap.size := Nat.le_trans h.hN h.below.size
  have hlt : ∀ id L, ρ id = some L → L.blk < w.heap.size := h.lt
  refine ⟨⟨h.below.trans (k.mono hN), h.hN, h.dom, fun id L hL => Nat.lt_of_lt_of_le (hlt id L hL) k.size, fun id L ro cs hL hs => ?_, fun id L o hL hs hsp => ?_, h.disj, fun b o v hv => by rw [k.cell (h.fz_lt hv)]; exact h.fzw b o v hv, h.fzo⟩, ⟨Grow.refl _ _, fun id L hl => .inl ⟨id, L, hl, rfl⟩, k.size, fun b hb _ => k.block b hb, fun b r hb => ?_⟩⟩
  · obtain ⟨h1, h2, h3⟩ := h.row id L ro cs hL hs
    refine ⟨fun j v hj => ?_, h2, fun hro => ?_⟩
    · obtain ⟨rv, g1, g2⟩ := h1 j v hj
      exact ⟨rv, by rw [k.cell (hlt id L hL)]; exact g1, g2⟩
    · obtain ⟨g1, g2, cells, e, g3, g4⟩ := h3 hro
      exact ⟨g1, g2, cells, e, by rw [k.block _ (hlt id L hL)]; exact g3, g4⟩
  · obtain ⟨h1, x, h2, h3⟩ := h.obj id L o hL hs hsp
    exact ⟨h1, x, by rw [k.block _ (hlt id L hL)]; exact h2, h3⟩
  · have hbl : b < w.heap.size := by
      rcases Nat.lt_or_ge b w.heap.size with h' | h'
      · exact h'
      · rw [Array.getElem?_eq_none h'] at hb; cases hb
    exact ⟨r, by rw [k.block b hbl]; exact hb, rfl⟩
/-- A closed call that answers true, in any heap. -/
theorem GCall.closed {P : Program} {f : FuncId} (h : GCall P f [] [] fun v _ => v = .bool true) {σ : GS} {Post : DV → GS → Prop} (k : Post (.bool true) σ) : GCall P f [] σ Post := by
  refine ⟨h.1, fun N w0 ρ w rargs hr hv => ?_⟩
  have hnil : rargs = [] := by simpa [VRs] using hv
  subst hnil
  have hr0 : Rel w.heap.size w ⟨fun _ => none, fun _ _ => none⟩ [] w := ⟨Below.refl _ _, Nat.le_refl _, (fun id L hL => by cases hL), (fun id L hL => by cases hL), (fun id L ro cs hL => by cases hL), (fun id L o hL => by cases hL), (fun i j Li Lj _ hL => by cases hL), (fun b o v hv => by cases hv), (fun b o v i L hv => by cases hv)⟩
  refine (h.2 w.heap.size w ⟨fun _ => none, fun _ _ => none⟩ w [] hr0 (by simp [VRs])).mono fun e w' hh => ?_
  obtain ⟨v, rv, ρ', σ', he, hrel, hext, hl, hvr, rfl⟩ := hh
  obtain ⟨h1, h2⟩ := hr.above hrel.below
  exact ⟨.bool true, rv, ρ, σ, he, h1, h2, Nat.le_refl _, by simpa [VR] using hvr, k⟩
end Go.Gh
namespace Go.Gh
open Go.RowKit
set_option linter.unusedVariables false
set_option linter.unusedSimpArgs false

mutual
/-- No ghost object is named. -/
def DV.closed : DV → Bool
  | .ptr .. | .slice .. | .map _ | .yield _ => false
  | .func _ a b => closeds a && closeds b
  | .agg cs | .tuple cs | .fptr cs => closeds cs
  | .fsl _ es => closedss es
  | _ => true
def closeds : List DV → Bool
  | [] => true
  | x :: xs => x.closed && closeds xs
def closedss : List (List DV) → Bool
  | [] => true
  | x :: xs => closeds x && closedss xs
end
mutual
theorem VR.closed {ρ ρ' : Ren} (h : ∀ b o v, ρ.fz b o = some v → ρ'.fz b o = some v) : ∀ (d : DV) (v : Value), d.closed = true → VR ρ d v → VR ρ' d v
  | .any, _, _, _ => by simp [VR]
  | .bool _, _, _, hv => by simpa [VR] using hv
  | .int _ _, _, _, hv => by simpa [VR] using hv
  | .str _, _, _, hv => by simpa [VR] using hv
  | .nilp, _, _, hv => by simpa [VR] using hv
  | .ptr _ _, _, hc, _ => by simp [DV.closed] at hc
  | .nils, _, _, hv => by simpa [VR] using hv
  | .slice .., _, hc, _ => by simp [DV.closed] at hc
  | .nilmap, _, _, hv => by simpa [VR] using hv
  | .map _, _, hc, _ => by simp [DV.closed] at hc
  | .nilf, _, _, hv => by simpa [VR] using hv
  | .func _ x y, _, hc, hv => by
    simp only [DV.closed, Bool.and_eq_true] at hc
    simp only [VR] at hv ⊢
    obtain ⟨a, b, h1, h2, h3⟩ := hv
    exact ⟨a, b, VRs.closed h x a hc.1 h1, VRs.closed h y b hc.2 h2, h3⟩
  | .yield _, _, hc, _ => by simp [DV.closed] at hc
  | .agg cs, _, hc, hv => by
    simp only [DV.closed] at hc
    simp only [VR] at hv ⊢
    obtain ⟨a, h1, h2⟩ := hv
    exact ⟨a, VRs.closed h cs a hc h1, h2⟩
  | .tuple cs, _, hc, hv => by
    simp only [DV.closed] at hc
    simp only [VR] at hv ⊢
    obtain ⟨a, h1, h2⟩ := hv
    exact ⟨a, VRs.closed h cs a hc h1, h2⟩
  | .fsl sz es, _, hc, hv => by
    simp only [DV.closed] at hc
    simp only [VR] at hv ⊢
    obtain ⟨b, o, c, a, vs, h1, h2, h3, h4, h5⟩ := hv
    exact ⟨b, o, c, a, vs, h1, h2, h3, VRss.closed h sz es vs hc h4, fun k x hx => h _ _ _ (h5 k x hx)⟩
  | .fptr cs, _, hc, hv => by
    simp only [DV.closed] at hc
    simp only [VR] at hv ⊢
    obtain ⟨b, o, vs, h1, h2, h3⟩ := hv
    exact ⟨b, o, vs, h1, VRs.closed h cs vs hc h2, fun k x hx => h _ _ _ (h3 k x hx)⟩
theorem VRs.closed {ρ ρ' : Ren} (h : ∀ b o v, ρ.fz b o = some v → ρ'.fz b o = some v) : ∀ (d : List DV) (v : List Value), closeds d = true → VRs ρ d v → VRs ρ' d v
  | [], _, _, hv => by simpa [VRs] using hv
  | c :: cs, _, hc, hv => by
    simp only [closeds, Bool.and_eq_true] at hc
    simp only [VRs] at hv ⊢
    obtain ⟨v, l, h1, h2, h3⟩ := hv
    exact ⟨v, l, h1, VR.closed h c v hc.1 h2, VRs.closed h cs l hc.2 h3⟩
theorem VRss.closed {ρ ρ' : Ren} (h : ∀ b o v, ρ.fz b o = some v → ρ'.fz b o = some v) : ∀ (sz : Nat) (d : List (List DV)) (v : List Value), closedss d = true → VRss ρ sz d v → VRss ρ' sz d v
  | sz, [], _, _, hv => by simpa [VRss] using hv
  | sz, e :: es, _, hc, hv => by
    simp only [closedss, Bool.and_eq_true] at hc
    simp only [VRss] at hv ⊢
    obtain ⟨v, l, h1, h2, h3, h4⟩ := hv
    exact ⟨v, l, h1, h2, VRs.closed h e v hc.1 h3, VRss.closed h sz es l hc.2 h4⟩
end
mutual
/-- All ghost objects that are named lie below n. -/
def DV.under (n : Nat) : DV → Bool
  | .ptr id _ => decide (id < n)
  | .slice id .. => decide (id < n)
  | .map id => decide (id < n)
  | .yield id => decide (id < n)
  | .func _ a b => unders n a && unders n b
  | .agg cs | .tuple cs | .fptr cs => unders n cs
  | .fsl _ es => underss n es
  | _ => true
def unders (n : Nat) : List DV → Bool
  | [] => true
  | x :: xs => x.under n && unders n xs
def underss (n : Nat) : List (List DV) → Bool
  | [] => true
  | x :: xs => unders n x && underss n xs
end
mutual
theorem VR.under {ρ : Ren} {n : Nat} (h : ∀ id L, ρ id = some L → id < n) : ∀ (d : DV) (v : Value), VR ρ d v → d.under n = true
  | .any, _, _ => rfl
  | .bool _, _, _ => rfl
  | .int _ _, _, _ => rfl
  | .str _, _, _ => rfl
  | .nilp, _, _ => rfl
  | .ptr _ _, _, hv => by simp only [VR] at hv; obtain ⟨L, h1, _⟩ := hv; simpa [DV.under] using h _ _ h1
  | .nils, _, _ => rfl
  | .slice .., _, hv => by simp only [VR] at hv; obtain ⟨L, a, c, h1, _⟩ := hv; simpa [DV.under] using h _ _ h1
  | .nilmap, _, _ => rfl
  | .map _, _, hv => by simp only [VR] at hv; obtain ⟨L, h1, _⟩ := hv; simpa [DV.under] using h _ _ h1
  | .nilf, _, _ => rfl
  | .func _ x y, _, hv => by
    simp only [VR] at hv
    obtain ⟨a, b, h1, h2, h3⟩ := hv
    simp only [DV.under, Bool.and_eq_true]
    exact ⟨VRs.under h x a h1, VRs.under h y b h2⟩
  | .yield _, _, hv => by simp only [VR] at hv; obtain ⟨L, h1, _⟩ := hv; simpa [DV.under] using h _ _ h1
  | .agg cs, _, hv => by simp only [VR] at hv; obtain ⟨a, h1, h2⟩ := hv; exact VRs.under h cs a h1
  | .tuple cs, _, hv => by simp only [VR] at hv; obtain ⟨a, h1, h2⟩ := hv; exact VRs.under h cs a h1
  | .fsl sz es, _, hv => by simp only [VR] at hv; obtain ⟨b, o, c, a, vs, h1, h2, h3, h4, h5⟩ := hv; exact VRss.under h sz es vs h4
  | .fptr cs, _, hv => by simp only [VR] at hv; obtain ⟨b, o, vs, h1, h2, h3⟩ := hv; exact VRs.under h cs vs h2
theorem VRs.under {ρ : Ren} {n : Nat} (h : ∀ id L, ρ id = some L → id < n) : ∀ (d : List DV) (v : List Value), VRs ρ d v → unders n d = true
  | [], _, _ => rfl
  | c :: cs, _, hv => by
    simp only [VRs] at hv
    obtain ⟨v, l, h1, h2, h3⟩ := hv
    simp only [unders, Bool.and_eq_true]
    exact ⟨VR.under h c v h2, VRs.under h cs l h3⟩
theorem VRss.under {ρ : Ren} {n : Nat} (h : ∀ id L, ρ id = some L → id < n) : ∀ (sz : Nat) (d : List (List DV)) (v : List Value), VRss ρ sz d v → underss n d = true
  | _, [], _, _ => rfl
  | sz, e :: es, _, hv => by
    simp only [VRss] at hv
    obtain ⟨v, l, h1, h2, h3, h4⟩ := hv
    simp only [underss, Bool.and_eq_true]
    exact ⟨VRs.under h e v h3, VRss.under h sz es l h4⟩
end
/-- Ghost objects from the n-th on lie nowhere any more. -/
def Ren.cut (ρ : Ren) (n : Nat) : Ren := ⟨fun id => if id < n then ρ id else none, ρ.fz⟩
theorem Ren.cut_lt {ρ : Ren} {n id : Nat} (h : id < n) : ρ.cut n id = ρ id := by simp [Ren.cut, h]
theorem Ren.cut_some {ρ : Ren} {n id : Nat} {L : Loc} (h : ρ.cut n id = some L) : id < n ∧ ρ id = some L := by
  simp only [Ren.cut] at h
  split at h
  · exact ⟨by assumption, h⟩
  · cases h
mutual
theorem VR.cut {ρ : Ren} {n : Nat} : ∀ (d : DV) (v : Value), d.under n = true → VR ρ d v → VR (ρ.cut n) d v
  | .any, _, _, _ => by simp [VR]
  | .bool _, _, _, hv => by simpa [VR] using hv
  | .int _ _, _, _, hv => by simpa [VR] using hv
  | .str _, _, _, hv => by simpa [VR] using hv
  | .nilp, _, _, hv => by simpa [VR] using hv
  | .ptr _ _, _, hc, hv => by
    simp only [DV.under, decide_eq_true_eq] at hc
    simp only [VR] at hv ⊢
    rw [Ren.cut_lt hc]; exact hv
  | .nils, _, _, hv => by simpa [VR] using hv
  | .slice .., _, hc, hv => by
    simp only [DV.under, decide_eq_true_eq] at hc
    simp only [VR] at hv ⊢
    rw [Ren.cut_lt hc]; exact hv
  | .nilmap, _, _, hv => by simpa [VR] using hv
  | .map _, _, hc, hv => by
    simp only [DV.under, decide_eq_true_eq] at hc
    simp only [VR] at hv ⊢
    rw [Ren.cut_lt hc]; exact hv
  | .nilf, _, _, hv => by simpa [VR] using hv
  | .func _ x y, _, hc, hv => by
    simp only [DV.under, Bool.and_eq_true] at hc
    simp only [VR] at hv ⊢
    obtain ⟨a, b, h1, h2, h3⟩ := hv
    exact ⟨a, b, VRs.cut x a hc.1 h1, VRs.cut y b hc.2 h2, h3⟩
  | .yield _, _, hc, hv => by
    simp only [DV.under, decide_eq_true_eq] at hc
    simp only [VR] at hv ⊢
    rw [Ren.cut_lt hc]; exact hv
  | .agg cs, _, hc, hv => by
    simp only [DV.under] at hc
    simp only [VR] at hv ⊢
    obtain ⟨a, h1, h2⟩ := hv
    exact ⟨a, VRs.cut cs a hc h1, h2⟩
  | .tuple cs, _, hc, hv => by
    simp only [DV.under] at hc
    simp only [VR] at hv ⊢
    obtain ⟨a, h1, h2⟩ := hv
    exact ⟨a, VRs.cut cs a hc h1, h2⟩
  | .fsl sz es, _, hc, hv => by
    simp only [DV.under] at hc
    simp only [VR] at hv ⊢
    obtain ⟨b, o, c, a, vs, h1, h2, h3, h4, h5⟩ := hv
    exact ⟨b, o, c, a, vs, h1, h2, h3, VRss.cut sz es vs hc h4, h5⟩
  | .fptr cs, _, hc, hv => by
    simp only [DV.under] at hc
    simp only [VR] at hv ⊢
    obtain ⟨b, o, vs, h1, h2, h3⟩ := hv
    exact ⟨b, o, vs, h1, VRs.cut cs vs hc h2, h3⟩
theorem VRs.cut {ρ : Ren} {n : Nat} : ∀ (d : List DV) (v : List Value), unders n d = true → VRs ρ d v → VRs (ρ.cut n) d v
  | [], _, _, hv => by simpa [VRs] using hv
  | c :: cs, _, hc, hv => by
    simp only [unders, Bool.and_eq_true] at hc
    simp only [VRs] at hv ⊢
    obtain ⟨v, l, h1, h2, h3⟩ := hv
    exact ⟨v, l, h1, VR.cut c v hc.1 h2, VRs.cut cs l hc.2 h3⟩
theorem VRss.cut {ρ : Ren} {n : Nat} : ∀ (sz : Nat) (d : List (List DV)) (v : List Value), underss n d = true → VRss ρ sz d v → VRss (ρ.cut n) sz d v
  | sz, [], _, _, hv => by simpa [VRss] using hv
  | sz, e :: es, _, hc, hv => by
    simp only [underss, Bool.and_eq_true] at hc
    simp only [VRss] at hv ⊢
    obtain ⟨v, l, h1, h2, h3, h4⟩ := hv
    exact ⟨v, l, h1, h2, VRs.cut e v hc.1 h3, VRss.cut sz es l hc.2 h4⟩
end
theorem unders_get {n : Nat} : ∀ {l : List DV}, unders n l = true → ∀ {i : Nat} {d : DV}, l[i]? = some d → d.under n = true
  | [], _, i, d, h => by simp at h
  | x :: xs, hu, 0, d, h => by simp only [unders, Bool.and_eq_true] at hu; simp at h; subst h; exact hu.1
  | x :: xs, hu, i + 1, d, h => by simp only [unders, Bool.and_eq_true] at hu; exact unders_get hu.2 (by simpa using h)
theorem MapR.under {ρ : Ren} {n : Nat} (h : ∀ id L, ρ id = some L → id < n) : ∀ {es : List (DV × DV)} {rs : List MapEntry}, MapR ρ es rs → ∀ p ∈ es, p.1.under n = true ∧ p.2.under n = true
  | [], _, _, p, hp => by cases hp
  | (k, v) :: es, _, ⟨e, l, _, h2, h3, h4⟩, p, hp => by
    rcases List.mem_cons.1 hp with rfl | hp
    · exact ⟨VR.under h _ _ h2, VR.under h _ _ h3⟩
    · exact MapR.under h h4 p hp
theorem MapR.cut {ρ : Ren} {n : Nat} : ∀ {es : List (DV × DV)} {rs : List MapEntry}, (∀ p ∈ es, p.1.under n = true ∧ p.2.under n = true) → MapR ρ es rs → MapR (ρ.cut n) es rs
  | [], _, _, h => h
  | (k, v) :: es, _, hu, ⟨e, l, h1, h2, h3, h4⟩ => ⟨e, l, h1, VR.cut _ _ (hu (k, v) (by simp)).1 h2, VR.cut _ _ (hu (k, v) (by simp)).2 h3, MapR.cut (fun p hp => hu p (by simp [hp])) h4⟩
/-- The later ghost objects are forgotten: what lies below has been there before. -/
theorem Rel.cut {N : Nat} {w0 : World} {ρ ρ0 : Ren} {σ σ0 : GS} {w w1 : World} (h : Rel N w0 ρ σ w) (h0 : Rel N w0 ρ0 σ0 w1) (hf : Fr σ0.length σ0 σ) (hg : ∀ id, id < σ0.length → ρ id = ρ0 id) : Rel N w0 (ρ.cut σ0.length) σ0 w where
  below := h.below
  hN := h.hN
  dom := fun id L hl => (Ren.cut_some hl).1
  lt := fun id L hl => h.lt id L (Ren.cut_some hl).2
  row := fun id L ro cs hl hs => by
    obtain ⟨hid, hl⟩ := Ren.cut_some hl
    obtain ⟨a, b, c⟩ := h.row id L ro cs hl (hf.at_ hs)
    obtain ⟨a0, _, _⟩ := h0.row id L ro cs (by rw [← hg id hid]; exact hl) hs
    have hu : ∀ (j : Nat) (v : DV), cs[j]? = some v → v.under σ0.length = true := fun j v hv => by
      obtain ⟨rv, _, q⟩ := a0 j v hv
      exact VR.under (fun i M hM => h0.dom i M hM) _ _ q
    exact ⟨fun j v hv => let ⟨rv, g1, g2⟩ := a j v hv; ⟨rv, g1, VR.cut _ _ (hu j v hv) g2⟩, fun hro j v hv => let ⟨rv, g1, g2⟩ := b hro j v hv; ⟨rv, g1, VR.cut _ _ (hu j v hv) g2⟩, c⟩
  obj := fun id L o hl hs hsp => by
    obtain ⟨hid, hl⟩ := Ren.cut_some hl
    obtain ⟨a, x, b, c⟩ := h.obj id L o hl (hf.at_ hs) hsp
    obtain ⟨_, x0, _, c0⟩ := h0.obj id L o (by rw [← hg id hid]; exact hl) hs hsp
    have hd : ∀ i M, ρ0 i = some M → i < σ0.length := fun i M hM => h0.dom i M hM
    refine ⟨a, x, b, ?_⟩
    cases o <;> simp only [ObjR] at c c0 ⊢
    · obtain ⟨rs, h1, h2, h4⟩ := c
      obtain ⟨_, _, h3, _⟩ := c0
      exact ⟨rs, h1, h2.cut (h3.under hd), h4⟩
    · rename_i m _ _ _
      obtain ⟨mm, h1, h2, h4⟩ := c
      obtain ⟨_, _, _, h3⟩ := c0
      refine ⟨mm, h1, h2, ?_⟩
      cases m with
      | none => exact h4
      | some k =>
        obtain ⟨M, g1, g2⟩ := h4
        obtain ⟨M0, g3, _⟩ := h3
        exact ⟨M, by simp only [Ren.cut]; rw [if_pos (hd k M0 g3)]; exact g1, g2⟩
    · obtain ⟨r, h1, h2⟩ := c
      obtain ⟨_, _, h3⟩ := c0
      exact ⟨r, h1, ⟨VRs.cut _ _ (VRs.under hd _ _ h3.env) h2.env, h2.ps, h2.asg, h2.body, h2.st, h2.pend⟩⟩
  disj := fun i j Li Lj hij hi hj oi oj => by
    have ho : ∀ i, own σ0 i → own σ i := fun i hi => by
      rcases hi with ⟨cs, hc⟩ | ⟨o, ho, hsp⟩
      · exact .inl ⟨cs, hf.at_ hc⟩
      · exact .inr ⟨o, hf.at_ ho, hsp⟩
    exact h.disj i j Li Lj hij (Ren.cut_some hi).2 (Ren.cut_some hj).2 (ho i oi) (ho j oj)
  fzw := h.fzw
  fzo := fun b o v i L hv hi oi => by
    have ho : ∀ i, own σ0 i → own σ i := fun i hi => by
      rcases hi with ⟨cs, hc⟩ | ⟨o, ho, hsp⟩
      · exact .inl ⟨cs, hf.at_ hc⟩
      · exact .inr ⟨o, hf.at_ ho, hsp⟩
    exact h.fzo b o v i L hv (Ren.cut_some hi).2 (ho i oi)
end Go.Gh
namespace Go.Gh
open Go.RowKit
set_option linter.unusedVariables false
set_option linter.unusedSimpArgs false

/-- An object is not written any more. -/
def GObj.frz : GObj → GObj
  | .row _ cs => .row true cs
  | o => o
/-- Those objects that S names are not written any more. -/
def frz (S : Nat → Bool) (σ : GS) : GS := σ.mapIdx fun i o => if S i then o.frz else o
theorem frz_len (S : Nat → Bool) (σ : GS) : (frz S σ).length = σ.length := by simp [frz]
theorem frz_get (S : Nat → Bool) (σ : GS) (i : Nat) : (frz S σ)[i]? = (σ[i]?).map fun o => if S i then o.frz else o := by simp [frz]
theorem frz_off {S : Nat → Bool} {σ : GS} {i : Nat} (h : S i = false) : (frz S σ)[i]? = σ[i]? := by rw [frz_get]; cases σ[i]? <;> simp [h]
theorem frz_row {S : Nat → Bool} {σ : GS} {i : Nat} {ro : Bool} {cs : List DV} (h : σ[i]? = some (.row ro cs)) (hs : S i = true) : (frz S σ)[i]? = some (.row true cs) := by rw [frz_get, h]; simp [hs, GObj.frz]
theorem own_frz {S : Nat → Bool} {σ : GS} {i : Nat} (h : own (frz S σ) i) : own σ i ∧ (S i = true → ¬ ∃ cs, σ[i]? = some (.row false cs)) := by
  unfold own at h
  rw [frz_get] at h
  cases hs : σ[i]? with
  | none => rw [hs] at h; rcases h with ⟨cs, h⟩ | ⟨o, h, _⟩ <;> simp at h
  | some o =>
    rw [hs] at h
    cases hS : S i with
    | false =>
      simp only [hS, Option.map_some] at h
      exact ⟨by unfold own; rw [hs]; simpa using h, fun e => by cases e⟩
    | true =>
      simp only [hS, Option.map_some, if_true] at h
      cases o with
      | row ro cs =>
        exfalso
        rcases h with ⟨c, h⟩ | ⟨o, h, hsp⟩
        · simp [GObj.frz] at h
        · simp only [GObj.frz, Option.some.injEq] at h; subst h; cases hsp
      | _ => exact ⟨by unfold own; rw [hs]; simpa [GObj.frz] using h, fun _ ⟨cs, e⟩ => by cases e⟩
theorem Rel.frz {N : Nat} {w0 : World} {ρ : Ren} {σ : GS} {w : World} (h : Rel N w0 ρ σ w) (S : Nat → Bool) : ∃ ρ' : Ren, ρ'.f = ρ.f ∧ ρ.le ρ' ∧ Rel N w0 ρ' (frz S σ) w := by
  classical
  let C : Nat → Prop := fun b => ∃ id L cs, S id = true ∧ ρ id = some L ∧ σ[id]? = some (.row false cs) ∧ L.blk = b
  let ρ' : Ren := ⟨ρ.f, fun b o => if C b then w.cell? ⟨b, o, none⟩ else ρ.fz b o⟩
  have hfz : ∀ b o v, ρ.fz b o = some v → ρ'.fz b o = some v := fun b o v hv => by
    show (if C b then _ else _) = _
    split
    · exact h.fzw b o v hv
    · exact hv
  have hle : ρ.le ρ' := ⟨fun _ _ h => h, hfz⟩
  refine ⟨ρ', rfl, hle, ⟨h.below, h.hN, fun id L hl => by rw [frz_len]; exact h.dom id L hl, h.lt, ?_, ?_, ?_, ?_, ?_⟩⟩
  · intro id L ro cs hl hs
    rw [frz_get] at hs
    obtain ⟨o, ho, hs⟩ := Option.map_eq_some_iff.1 hs
    cases hS : S id with
    | false =>
      simp only [hS] at hs
      have hs' : o = .row ro cs := by simpa using hs
      subst hs'
      obtain ⟨a, b, c⟩ := h.row id L ro cs hl ho
      exact ⟨a.mono hle, fun hro j v hv => let ⟨rv, g1, g2⟩ := b hro j v hv; ⟨rv, hfz _ _ _ g1, VR.mono hle _ _ g2⟩, c⟩
    | true =>
      simp only [hS, if_true] at hs
      cases o with
      | row r c =>
        simp only [GObj.frz, GObj.row.injEq] at hs
        obtain ⟨rfl, rfl⟩ := hs
        obtain ⟨a, b, c'⟩ := h.row id L r c hl ho
        refine ⟨a.mono hle, fun _ j v hv => ?_, fun e => by cases e⟩
        cases r with
        | true => obtain ⟨rv, g1, g2⟩ := b rfl j v hv; exact ⟨rv, hfz _ _ _ g1, VR.mono hle _ _ g2⟩
        | false =>
          obtain ⟨rv, g1, g2⟩ := a j v hv
          refine ⟨rv, ?_, VR.mono hle _ _ g2⟩
          show (if C L.blk then _ else _) = _
          rw [if_pos ⟨id, L, c, hS, hl, ho, rfl⟩]; exact g1
      | _ => simp [GObj.frz] at hs
  · intro id L o hl hs hsp
    rw [frz_get] at hs
    obtain ⟨o', ho, hs⟩ := Option.map_eq_some_iff.1 hs
    have he : o' = o := by
      cases hS : S id with
      | false => simpa [hS] using hs
      | true =>
        simp only [hS, if_true] at hs
        cases o' <;> simp only [GObj.frz] at hs <;> subst hs <;> first | rfl | (cases hsp)
    subst he
    obtain ⟨a, x, b, c⟩ := h.obj id L o' hl ho hsp
    exact ⟨a, x, b, c.mono hle⟩
  · intro i j Li Lj hij hi hj oi oj
    exact h.disj i j Li Lj hij hi hj (own_frz oi).1 (own_frz oj).1
  · intro b o v hv
    have hv' : (if C b then w.cell? ⟨b, o, none⟩ else ρ.fz b o) = some v := hv
    split at hv'
    · exact hv'
    · exact h.fzw b o v hv'
  · intro b o v i L hv hi oi
    obtain ⟨o1, o2⟩ := own_frz oi
    have hv' : (if C b then w.cell? ⟨b, o, none⟩ else ρ.fz b o) = some v := hv
    split at hv'
    · rename_i hC
      obtain ⟨id, L', cs, hS, hl, hs, rfl⟩ := hC
      have hne : i ≠ id := fun e => by subst e; exact o2 hS ⟨cs, hs⟩
      exact h.disj i id L L' hne hi hl o1 (.inl ⟨cs, hs⟩)
    · exact h.fzo b o v i L hv' hi o1

mutual
/-- How a value reads, through rows that ok names. -/
inductive Rd (σ : GS) (ok : Nat → Prop) : DV → DV → Prop
  | same (d : DV) : Rd σ ok d d
  | nils (sz : Nat) : Rd σ ok .nils (.fsl sz [])
  | empty (id off sz : Nat) (cap : Option Nat) : Rd σ ok (.slice id off 0 sz cap) (.fsl sz [])
  | slice {id off sz : Nat} {cap : Option Nat} {ro : Bool} {cs : List DV} {es : List (List DV)} (h1 : ok id) (h2 : σ[id]? = some (.row ro cs)) (h3 : off + es.length * sz ≤ cs.length) (h4 : ∀ e ∈ es, e.length = sz) (h5 : Rds σ ok ((cs.drop off).take (es.length * sz)) es.flatten) : Rd σ ok (.slice id off es.length sz cap) (.fsl sz es)
  | ptr {id off : Nat} {ro : Bool} {cs cs' : List DV} (h1 : ok id) (h2 : σ[id]? = some (.row ro cs)) (h3 : Rds σ ok (cs.drop off) cs') : Rd σ ok (.ptr id off) (.fptr cs')
  | agg {cs cs' : List DV} (h : Rds σ ok cs cs') : Rd σ ok (.agg cs) (.agg cs')
  | tuple {cs cs' : List DV} (h : Rds σ ok cs cs') : Rd σ ok (.tuple cs) (.tuple cs')
  | func {f : FuncId} {a a' b b' : List DV} (h1 : Rds σ ok a a') (h2 : Rds σ ok b b') : Rd σ ok (.func f a b) (.func f a' b')
inductive Rds (σ : GS) (ok : Nat → Prop) : List DV → List DV → Prop
  | nil : Rds σ ok [] []
  | cons {x y : DV} {xs ys : List DV} (h1 : Rd σ ok x y) (h2 : Rds σ ok xs ys) : Rds σ ok (x :: xs) (y :: ys)
end
theorem Rds.refl {σ : GS} {ok : Nat → Prop} : ∀ l : List DV, Rds σ ok l l
  | [] => .nil
  | x :: xs => .cons (.same x) (Rds.refl xs)
mutual
theorem Rd.mono {σ σ' : GS} {ok ok' : Nat → Prop} (h : ∀ id ro cs, ok id → σ[id]? = some (.row ro cs) → ok' id ∧ ∃ ro', σ'[id]? = some (.row ro' cs)) : ∀ {d d' : DV}, Rd σ ok d d' → Rd σ' ok' d d'
  | _, _, .same d => .same d
  | _, _, .nils sz => .nils sz
  | _, _, .empty id off sz cap => .empty id off sz cap
  | _, _, .slice h1 h2 h3 h4 h5 => let ⟨k1, _, k2⟩ := h _ _ _ h1 h2; .slice k1 k2 h3 h4 (Rds.mono h h5)
  | _, _, .ptr h1 h2 h3 => let ⟨k1, _, k2⟩ := h _ _ _ h1 h2; .ptr k1 k2 (Rds.mono h h3)
  | _, _, .agg h1 => .agg (Rds.mono h h1)
  | _, _, .tuple h1 => .tuple (Rds.mono h h1)
  | _, _, .func h1 h2 => .func (Rds.mono h h1) (Rds.mono h h2)
theorem Rds.mono {σ σ' : GS} {ok ok' : Nat → Prop} (h : ∀ id ro cs, ok id → σ[id]? = some (.row ro cs) → ok' id ∧ ∃ ro', σ'[id]? = some (.row ro' cs)) : ∀ {d d' : List DV}, Rds σ ok d d' → Rds σ' ok' d d'
  | _, _, .nil => .nil
  | _, _, .cons h1 h2 => .cons (Rd.mono h h1) (Rds.mono h h2)
end
/-- The row is not written any more. -/
def RO (σ : GS) (id : Nat) : Prop := ∀ ro cs, σ[id]? = some (.row ro cs) → ro = true
theorem ro_cells {N : Nat} {w0 : World} {ρ : Ren} {σ : GS} {w : World} (h : Rel N w0 ρ σ w) {id : Nat} {L : Loc} {ro : Bool} {cs : List DV} (hl : ρ id = some L) (hs : σ[id]? = some (.row ro cs)) (hr : RO σ id) (off n : Nat) :
    ∃ vs, VRs ρ ((cs.drop off).take n) vs ∧ ∀ (k : Nat) (x : Value), vs[k]? = some x → ρ.fz L.blk (L.off + off + k) = some x := by
  have hro := hr ro cs hs
  subst hro
  obtain ⟨_, b, _⟩ := h.row id L true cs hl hs
  refine ⟨(List.range ((cs.drop off).take n).length).map fun k => (ρ.fz L.blk (L.off + off + k)).getD undef, VRs.mk (by simp) fun i x hx => ?_, fun k x hx => ?_⟩
  · have hlt : i < ((cs.drop off).take n).length := (List.getElem?_eq_some_iff.1 hx).1
    rw [List.getElem?_take] at hx
    split at hx
    · rw [List.getElem?_drop] at hx
      obtain ⟨rv, g1, g2⟩ := b rfl _ x hx
      refine ⟨rv, ?_, g2⟩
      rw [List.getElem?_map, List.getElem?_range hlt]
      simp only [Option.map_some]
      rw [show L.off + off + i = L.off + (off + i) by omega, g1]; rfl
    · cases hx
  · obtain ⟨j, hj, rfl⟩ : ∃ j, (List.range ((cs.drop off).take n).length)[k]? = some j ∧ (ρ.fz L.blk (L.off + off + j)).getD undef = x := by simpa [List.getElem?_map] using hx
    have hlt : k < ((cs.drop off).take n).length := by
      have := (List.getElem?_eq_some_iff.1 hj).1; simpa using this
    rw [List.getElem?_range hlt] at hj; cases hj
    have hx : ((cs.drop off).take n)[k]? = some (((cs.drop off).take n)[k]) := List.getElem?_eq_getElem hlt
    generalize ((cs.drop off).take n)[k] = d at hx
    rw [List.getElem?_take] at hx
    split at hx
    · rw [List.getElem?_drop] at hx
      obtain ⟨rv, g1, g2⟩ := b rfl _ d hx
      rw [show L.off + off + k = L.off + (off + k) by omega, g1]; rfl
    · cases hx
mutual
theorem Rd.sound {N : Nat} {w0 : World} {ρ : Ren} {σ : GS} {w : World} (h : Rel N w0 ρ σ w) : ∀ {d d' : DV} {v : Value}, Rd σ (RO σ) d d' → VR ρ d v → VR ρ d' v
  | _, _, v, .same d, hv => hv
  | _, _, v, .nils sz, hv => by
    rw [hv.nils_inv]
    exact VR.fsl_of (es := []) (b := 0) (o := 0) (c := 0) (a := none) (vs := []) (by simp) (fun e => absurd rfl e) (by simp [VRs]) (fun e he => by cases he) (fun k x hx => by simp at hx)
  | _, _, v, .empty id off sz cap, hv => by
    obtain ⟨L, a, c, hL, rfl, h1, h2, h3, h4⟩ := hv.slice_inv
    exact VR.fsl_of (es := []) (b := L.blk) (o := L.off + off) (c := c) (a := a) (vs := []) (by simp) h2 (by simp [VRs]) (fun e he => by cases he) (fun k x hx => by simp at hx)
  | _, _, v, .slice (id := id) (off := off) (sz := sz) (es := es) k1 k2 k3 k4 k5, hv => by
    obtain ⟨L, a, c, hL, rfl, h1, h2, h3, h4⟩ := hv.slice_inv
    obtain ⟨vs, g1, g2⟩ := ro_cells h hL k2 k1 off (es.length * sz)
    exact VR.fsl_of h1 h2 (Rds.sound h k5 g1) k4 g2
  | _, _, v, .ptr (id := id) (off := off) (cs := cs) k1 k2 k3, hv => by
    obtain ⟨L, hL, rfl⟩ := hv.ptr_inv
    obtain ⟨vs, g1, g2⟩ := ro_cells h hL k2 k1 off cs.length
    rw [List.take_of_length_le (by simp)] at g1
    exact VR.fptr_of (Rds.sound h k3 g1) g2
  | _, _, v, .agg k, hv => by
    obtain ⟨a, h1, rfl⟩ := hv.agg_inv
    simp only [VR]; exact ⟨a, Rds.sound h k h1, rfl⟩
  | _, _, v, .tuple k, hv => by
    obtain ⟨a, h1, rfl⟩ := hv.tuple_inv
    simp only [VR]; exact ⟨a, Rds.sound h k h1, rfl⟩
  | _, _, v, .func k1 k2, hv => by
    obtain ⟨a, b, h1, h2, rfl⟩ := hv.func_inv
    simp only [VR]; exact ⟨a, b, Rds.sound h k1 h1, Rds.sound h k2 h2, rfl⟩
theorem Rds.sound {N : Nat} {w0 : World} {ρ : Ren} {σ : GS} {w : World} (h : Rel N w0 ρ σ w) : ∀ {d d' : List DV} {v : List Value}, Rds σ (RO σ) d d' → VRs ρ d v → VRs ρ d' v
  | _, _, v, .nil, hv => hv
  | _, _, v, .cons k1 k2, hv => by
    simp only [VRs] at hv ⊢
    obtain ⟨x, l, h1, h2, h3⟩ := hv
    exact ⟨x, l, h1, Rd.sound h k1 h2, Rds.sound h k2 h3⟩
end
section
variable {P : Program} {f : FuncId} {args : List DV} {σ : GS} {Post : DV → GS → Prop}
/-- Behind a call: objects are not written any more, and what is returned reads so. -/
theorem GCall.out (h : GCall P f args σ fun v σ' => ∃ S v', Rd (frz S σ') (RO (frz S σ')) v v' ∧ Post v' (frz S σ')) : GCall P f args σ Post := by
  refine ⟨h.1, fun N w0 ρ w rargs hr hv => (h.2 N w0 ρ w rargs hr hv).mono ?_⟩
  rintro e w' ⟨v, rv, ρ', σ', rfl, q1, q2, q3, q4, S, v', q5, q6⟩
  obtain ⟨ρ1, p1, p2, p3⟩ := q1.frz S
  refine ⟨v', rv, ρ1, frz S σ', rfl, p3, ⟨⟨fun id hid => ?_, fun b o v hv => p2.fz _ _ _ (q2.grow.fz _ _ _ hv)⟩, fun id L hL => q2.new id L (by rw [← p1]; exact hL), q2.size, q2.frame, q2.loops⟩, by rw [frz_len]; exact q3, Rd.sound p3 q5 (VR.mono p2 _ _ q4), q6⟩
  rw [← q2.grow.keep id hid]; show ρ1.f id = ρ'.f id; rw [p1]
/-- A call that leaves what was there, and returns a value that names no ghost object: all else is forgotten. -/
theorem GCall.pure {r : DV} (h : GCall P f args σ fun v σ' => Fr σ.length σ σ' ∧ Rd σ' (fun i => σ.length ≤ i ∨ RO σ' i) v r) (hc : r.closed = true) (k : Post r σ) : GCall P f args σ Post := by
  refine ⟨h.1, fun N w0 ρ w rargs hr hv => (h.2 N w0 ρ w rargs hr hv).mono ?_⟩
  rintro e w' ⟨v, rv, ρ', σ', rfl, q1, q2, q3, q4, hf, hrd⟩
  obtain ⟨ρ1, p1, p2, p3⟩ := q1.frz fun i => decide (σ.length ≤ i)
  have hrd' : Rd (frz (fun i => decide (σ.length ≤ i)) σ') (RO (frz (fun i => decide (σ.length ≤ i)) σ')) v r := by
    refine Rd.mono (fun id ro cs hok hs => ?_) hrd
    by_cases hid : σ.length ≤ id
    · have := frz_row (S := fun i => decide (σ.length ≤ i)) hs (by simpa using hid)
      exact ⟨fun r2 c2 h2 => by rw [this] at h2; cases h2; rfl, true, this⟩
    · have := frz_off (S := fun i => decide (σ.length ≤ i)) (σ := σ') (i := id) (by simpa using hid)
      refine ⟨fun r2 c2 h2 => ?_, ro, by rw [this]; exact hs⟩
      rw [this] at h2
      rcases hok with h' | h'
      · exact absurd h' hid
      · exact h' r2 c2 h2
  have hvr := Rd.sound p3 hrd' (VR.mono p2 _ _ q4)
  have hff : Fr σ.length σ (frz (fun i => decide (σ.length ≤ i)) σ') := ⟨by rw [frz_len]; exact hf.len, fun i hi => by rw [frz_off (by simpa using hi)]; exact hf.get i hi⟩
  have hkeep : ∀ id, id < σ.length → ρ1 id = ρ id := fun id hid => by
    rw [← q2.grow.keep id hid]; show ρ1.f id = ρ'.f id; rw [p1]
  have hcut := Rel.cut p3 hr hff hkeep
  refine ⟨r, rv, ρ1.cut σ.length, σ, rfl, hcut, ⟨⟨fun id hid => by rw [Ren.cut_lt hid]; exact hkeep id hid, fun b o v hv => p2.fz _ _ _ (q2.grow.fz _ _ _ hv)⟩, fun id L hL => q2.new id L (by rw [← p1]; exact (Ren.cut_some hL).2), q2.size, q2.frame, q2.loops⟩, Nat.le_refl _, VR.closed (ρ := ρ1) (ρ' := ρ1.cut σ.length) (fun _ _ _ h => h) _ _ hc hvr, k⟩
/-- Ahead of a call: objects are not written any more, and the arguments read so. -/
theorem GCall.frz (S : Nat → Bool) {args' : List DV} (ha : Rds (frz S σ) (RO (frz S σ)) args args') (h : GCall P f args' (frz S σ) Post) : GCall P f args σ Post := by
  refine ⟨h.1, fun N w0 ρ w rargs hr hv => ?_⟩
  obtain ⟨ρ1, p1, p2, p3⟩ := hr.frz S
  refine (h.2 N w0 ρ1 w rargs p3 (Rds.sound p3 ha (VRs.mono p2 _ _ hv))).mono ?_
  rintro e w' ⟨v, rv, ρ', σ', rfl, q1, q2, q3, q4, q5⟩
  rw [frz_len] at q2 q3
  refine ⟨v, rv, ρ', σ', rfl, q1, ⟨⟨fun id hid => by rw [q2.grow.keep id hid]; show ρ1.f id = ρ.f id; rw [p1], fun b o v hv => q2.grow.fz _ _ _ (p2.fz _ _ _ hv)⟩, fun id L hL => ?_, q2.size, fun b hb hu => q2.frame b hb fun i M hM => hu i M (by rw [← hM]; show ρ.f i = ρ1.f i; rw [p1]), q2.loops⟩, q3, q4, q5⟩
  rcases q2.new id L hL with ⟨i, M, h1, h2⟩ | h1
  · exact .inl ⟨i, M, by rw [← h1]; show ρ.f i = ρ1.f i; rw [p1], h2⟩
  · exact .inr h1
mutual
/-- Truths, numbers and nils. -/
def DV.scalar : DV → Bool
  | .bool _ | .int .. | .str _ | .nilp | .nils | .nilmap | .nilf => true
  | .agg cs | .tuple cs => scalars cs
  | _ => false
def scalars : List DV → Bool
  | [] => true
  | x :: xs => x.scalar && scalars xs
end
mutual
theorem VR.scalar {ρ ρ' : Ren} : ∀ (d : DV) (v : Value), d.scalar = true → VR ρ d v → VR ρ' d v
  | .any, _, hc, hv => by simp [DV.scalar] at hc
  | .bool _, _, _, hv => by simpa [VR] using hv
  | .int _ _, _, _, hv => by simpa [VR] using hv
  | .str _, _, _, hv => by simpa [VR] using hv
  | .nilp, _, _, hv => by simpa [VR] using hv
  | .ptr _ _, _, hc, _ => by simp [DV.scalar] at hc
  | .nils, _, _, hv => by simpa [VR] using hv
  | .slice .., _, hc, _ => by simp [DV.scalar] at hc
  | .nilmap, _, _, hv => by simpa [VR] using hv
  | .map _, _, hc, _ => by simp [DV.scalar] at hc
  | .nilf, _, _, hv => by simpa [VR] using hv
  | .func _ x y, _, hc, hv => by simp [DV.scalar] at hc
  | .yield _, _, hc, _ => by simp [DV.scalar] at hc
  | .fsl .., _, hc, _ => by simp [DV.scalar] at hc
  | .fptr _, _, hc, _ => by simp [DV.scalar] at hc
  | .agg cs, _, hc, hv => by
    simp only [DV.scalar] at hc
    simp only [VR] at hv ⊢
    obtain ⟨a, h1, h2⟩ := hv
    exact ⟨a, VRs.scalar cs a hc h1, h2⟩
  | .tuple cs, _, hc, hv => by
    simp only [DV.scalar] at hc
    simp only [VR] at hv ⊢
    obtain ⟨a, h1, h2⟩ := hv
    exact ⟨a, VRs.scalar cs a hc h1, h2⟩
theorem VRs.scalar {ρ ρ' : Ren} : ∀ (d : List DV) (v : List Value), scalars d = true → VRs ρ d v → VRs ρ' d v
  | [], _, _, hv => by simpa [VRs] using hv
  | c :: cs, _, hc, hv => by
    simp only [scalars, Bool.and_eq_true] at hc
    simp only [VRs] at hv ⊢
    obtain ⟨v, l, h1, h2, h3⟩ := hv
    exact ⟨v, l, h1, VR.scalar c v hc.1 h2, VRs.scalar cs l hc.2 h3⟩
end
/-- A call that reads alone, and returns numbers and truths: the arguments may lie in rows of one's own. -/
theorem GCall.borrow {args' : List DV} {r : DV} (ha : Rds σ (fun _ => True) args args') (hc : closeds args' = true) (hr : r.scalar = true) (h : GCall P f args' [] fun v _ => v = r) (k : Post r σ) : GCall P f args σ Post := by
  refine ⟨h.1, fun N w0 ρ w rargs hrel hv => ?_⟩
  obtain ⟨ρ1, p1, p2, p3⟩ := hrel.frz fun _ => true
  have ha' : Rds (Go.Gh.frz (fun _ => true) σ) (RO (Go.Gh.frz (fun _ => true) σ)) args args' := by
    refine Rds.mono (fun id ro cs _ hs => ?_) ha
    have := frz_row (S := fun _ => true) hs rfl
    exact ⟨fun r2 c2 h2 => by rw [this] at h2; cases h2; rfl, true, this⟩
  have hv1 := Rds.sound p3 ha' (VRs.mono p2 _ _ hv)
  have hv2 : VRs ⟨fun _ => none, ρ1.fz⟩ args' rargs := VRs.closed (ρ := ρ1) (ρ' := ⟨fun _ => none, ρ1.fz⟩) (fun _ _ _ h => h) _ _ hc hv1
  have hr0 : Rel w.heap.size w ⟨fun _ => none, ρ1.fz⟩ [] w := ⟨Below.refl _ _, Nat.le_refl _, (fun id L hL => by cases hL), (fun id L hL => by cases hL), (fun id L ro cs hL => by cases hL), (fun id L o hL => by cases hL), (fun i j Li Lj _ hL => by cases hL), p3.fzw, (fun b o v i L _ hi => by cases hi)⟩
  refine (h.2 w.heap.size w _ w rargs hr0 hv2).mono ?_
  rintro e w' ⟨v, rv, ρ', σ', rfl, q1, q2, q3, q4, rfl⟩
  obtain ⟨h1, h2⟩ := hrel.above q1.below
  exact ⟨v, rv, ρ, σ, rfl, h1, h2, Nat.le_refl _, VR.scalar _ _ hr q4, k⟩
end
end Go.Gh
namespace Go.Gh
open Go.RowKit
set_option linter.unusedVariables false
set_option linter.unusedSimpArgs false
/-- An element of a list, where simp does not look it up by itself. -/
def nth {α : Type} (l : List α) (i : Nat) : Option α := l[i]?
@[simp] theorem nth_map {α β : Type} (f : α → β) (l : List α) (i : Nat) : nth (l.map f) i = (nth l i).map f := by simp [nth]
theorem nth_lt {α : Type} {l : List α} {i : Nat} (h : i < l.length) : ∃ x, nth l i = some x := ⟨l[i], List.getElem?_eq_getElem h⟩
section
variable (σ : GS) (sz n : Nat) (es : List (List DV)) (cs : List DV) (k : IntKind) (i : Int)
@[simp] theorem gp_len_fsl : gpure .len [.fsl sz es] = some (.int .i64 es.length) := rfl
@[simp] theorem gp_iaddr_fsl : gpure (.iaddr sz) [.fsl sz es, .int k i] = if 0 ≤ i then (nth es i.toNat).map .fptr else none := by simp [gpure, nth]
@[simp] theorem gp_faddr_fptr : gpure (.faddr n) [.fptr cs] = some (.fptr (cs.drop n)) := rfl
@[simp] theorem gp_iarr_fptr : gpure (.iarr n sz) [.fptr cs, .int k i] = if 0 ≤ i ∧ i < n then some (.fptr ((cs.drop (i.toNat * sz)).take sz)) else none := rfl
@[simp] theorem gp_iarr_ptr (id o : Nat) : gpure (.iarr n sz) [.ptr id o, .int k i] = if 0 ≤ i ∧ i < n then some (.ptr id (o + i.toNat * sz)) else none := rfl
@[simp] theorem gp_nilck_fptr : gpure .nilck [.fptr cs] = some (.fptr cs) := rfl
@[simp] theorem gl_fptr_f : gload (.load n false) [.fptr cs] σ = cs[0]? := rfl
@[simp] theorem gl_fptr_t : gload (.load n true) [.fptr cs] σ = if n ≤ cs.length then some (.agg (cs.take n)) else none := rfl
end
@[simp] theorem flat_bool (b : Bool) : (DV.bool b).flat = true := by simp [DV.flat]
@[simp] theorem flat_int (k : IntKind) (n : Int) : (DV.int k n).flat = true := by simp [DV.flat]
@[simp] theorem flat_ptr (a b : Nat) : (DV.ptr a b).flat = true := by simp [DV.flat]
@[simp] theorem flat_nilp : DV.nilp.flat = true := by simp [DV.flat]
@[simp] theorem flat_nils : DV.nils.flat = true := by simp [DV.flat]
@[simp] theorem flat_slice (a b c d : Nat) (e : Option Nat) : (DV.slice a b c d e).flat = true := by simp [DV.flat]
@[simp] theorem flat_map (a : Nat) : (DV.map a).flat = true := by simp [DV.flat]
@[simp] theorem flat_nilmap : DV.nilmap.flat = true := by simp [DV.flat]
@[simp] theorem flat_func (f : FuncId) (a b : List DV) : (DV.func f a b).flat = true := by simp [DV.flat]
@[simp] theorem flat_fsl (sz : Nat) (es : List (List DV)) : (DV.fsl sz es).flat = true := by simp [DV.flat]
@[simp] theorem flat_fptr (cs : List DV) : (DV.fptr cs).flat = true := by simp [DV.flat]
theorem cells_of_flat {v : DV} (h : v.flat = true) : v.cells = some [v] := by cases v <;> first | rfl | cases h
@[simp] theorem cells_agg (cs : List DV) : (DV.agg cs).cells = some cs := rfl
theorem ga_b1_agg {sz : Nat} {z cs : List DV} (h1 : cs.length = sz) (h2 : z.length = sz) : galloc (.bslice sz z 1 [(0, sz)]) [.agg cs] = some (.row false cs, fun id => .slice id 0 1 sz (some 1)) := by
  rw [show galloc (.bslice sz z 1 [(0, sz)]) [.agg cs] = (gfill [(0, sz)] (gzeros z (1 * sz)) [.agg cs]).map fun cs => (.row false cs, fun id => .slice id 0 1 sz (some 1)) from rfl]
  have hg : (gzeros z (1 * sz)).length = sz := by rw [gzeros_length]; omega
  generalize gzeros z (1 * sz) = zz at hg
  simp only [gfill, cells_agg, hg]
  rw [if_pos ⟨h1, by omega⟩]
  have : over zz 0 cs = cs := by
    unfold over
    simp [List.drop_eq_nil_of_le (show zz.length ≤ 0 + cs.length by omega)]
    omega
  rw [this]; rfl
theorem ga_b1_flat {z : DV} {v : DV} (h : v.flat = true) : galloc (.bslice 1 [z] 1 [(0, 1)]) [v] = some (.row false [v], fun id => .slice id 0 1 1 (some 1)) := by
  simp [galloc, gfill, cells_of_flat h, gzeros, over]
theorem box_flat {v : DV} (h : v.flat = true) : galloc .box [v] = some (.row false [v], fun id => .ptr id 0) := by
  simp [galloc, cells_of_flat h]

/-- A list of numbers that nobody writes. -/
abbrev eint (x : Int) : List DV := [.int .i64 x]
abbrev fints (xs : List Int) : DV := .fsl 1 (xs.map eint)
theorem closedss_map {α : Type} {f : α → List DV} {xs : List α} (h : ∀ x ∈ xs, closeds (f x) = true) : closedss (xs.map f) = true := by
  induction xs with
  | nil => rfl
  | cons x xs ih =>
    simp only [List.map_cons, closedss, Bool.and_eq_true]
    exact ⟨h x (by simp), ih fun y hy => h y (by simp [hy])⟩
@[simp] theorem closed_fints (xs : List Int) : (fints xs).closed = true := closedss_map fun _ _ => rfl
@[simp] theorem closed_bool (b : Bool) : (DV.bool b).closed = true := rfl
@[simp] theorem closed_int (k : IntKind) (n : Int) : (DV.int k n).closed = true := rfl
@[simp] theorem closed_nils : DV.nils.closed = true := rfl
@[simp] theorem closed_tuple (cs : List DV) : (DV.tuple cs).closed = closeds cs := rfl
@[simp] theorem closed_agg (cs : List DV) : (DV.agg cs).closed = closeds cs := rfl
@[simp] theorem closeds_nil : closeds [] = true := rfl
@[simp] theorem closeds_cons (x : DV) (xs : List DV) : closeds (x :: xs) = (x.closed && closeds xs) := rfl

theorem flatMap_len {α : Type} {enc : α → List DV} {sz : Nat} (hc : ∀ x, (enc x).length = sz) (xs : List α) : (xs.flatMap enc).length = xs.length * sz := by
  induction xs with
  | nil => simp
  | cons x xs ih => simp [hc, ih, Nat.add_mul]; omega
/-- A slice of one's own, in an object from the n-th on. -/
def Own {α : Type} (n sz : Nat) (enc : α → List DV) (σ : GS) (s : DV) (xs : List α) : Prop :=
  (s = .nils ∧ xs = []) ∨ ∃ id cap rest, n ≤ id ∧ s = .slice id 0 xs.length sz cap ∧ σ[id]? = some (.row false (xs.flatMap enc ++ rest)) ∧ ∀ c, cap = some c → c * sz ≤ xs.length * sz + rest.length
section
variable {α : Type} {n sz : Nat} {enc : α → List DV} {σ σ' : GS} {s : DV} {xs : List α}
theorem Own.nil : Own n sz enc σ .nils [] := .inl ⟨rfl, rfl⟩
theorem Own.at_ {id : Nat} {cap : Option Nat} (h : n ≤ id) (k : σ[id]? = some (.row false (xs.flatMap enc))) (hc : ∀ c, cap = some c → c = xs.length) : Own n sz enc σ (.slice id 0 xs.length sz cap) xs :=
  .inr ⟨id, cap, [], h, rfl, by simpa using k, fun c hcc => by rw [hc c hcc]; simp⟩
theorem Own.has_ge (h : Own n sz enc σ s xs) {i : Nat} (hi : s.has i) : n ≤ i := by
  obtain ⟨_, _, _, _, rfl⟩ := hi
  rcases h with ⟨h, _⟩ | ⟨id, cap, rest, h1, h2, _⟩
  · cases h
  · cases h2; exact h1
theorem Own.has_lt (h : Own n sz enc σ s xs) {i : Nat} (hi : s.has i) : i < σ.length := by
  obtain ⟨_, _, _, _, rfl⟩ := hi
  rcases h with ⟨h, _⟩ | ⟨id, cap, rest, h1, h2, h3, _⟩
  · cases h
  · cases h2; exact get_dom h3
theorem Own.fit (h : Own n sz enc σ s xs) (hf : ∀ i, s.has i → σ'[i]? = σ[i]?) : Own n sz enc σ' s xs := by
  rcases h with h | ⟨id, cap, rest, h1, rfl, h3, h4⟩
  · exact .inl h
  · exact .inr ⟨id, cap, rest, h1, rfl, (hf id ⟨_, _, _, _, rfl⟩).trans h3, h4⟩
theorem Own.fr (h : Own n sz enc σ s xs) (hf : Fr σ.length σ σ') : Own n sz enc σ' s xs := h.fit fun i hi => hf.get i (h.has_lt hi)
theorem Own.weaken {m : Nat} (h : Own n sz enc σ s xs) (k : m ≤ n) : Own m sz enc σ s xs := by
  rcases h with h | ⟨id, cap, rest, h1, h2⟩
  · exact .inl h
  · exact .inr ⟨id, cap, rest, by omega, h2⟩
theorem Own.flat (h : Own n sz enc σ s xs) : s.flat = true := by
  rcases h with ⟨rfl, _⟩ | ⟨id, cap, rest, _, rfl, _⟩ <;> rfl
theorem Own.len (h : Own n sz enc σ s xs) : gpure .len [s] = some (.int .i64 xs.length) := by
  rcases h with ⟨rfl, rfl⟩ | ⟨id, cap, rest, _, rfl, _⟩ <;> rfl
theorem elem_cells (hc : ∀ x, (enc x).length = sz) : ∀ (xs : List α) (rest : List DV) (i : Nat) (x : α), xs[i]? = some x → ((xs.flatMap enc ++ rest).drop (i * sz)).take sz = enc x := by
  intro xs
  induction xs with
  | nil => intro rest i x h; simp at h
  | cons y xs ih =>
    intro rest i x h
    have hy := hc y
    cases i with
    | zero => simp at h; subst h; simp [← hy]
    | succ i =>
      simp only [List.getElem?_cons_succ] at h
      have := ih rest i x h
      simp only [List.flatMap_cons, List.append_assoc, Nat.add_mul, Nat.one_mul]
      rw [show i * sz + sz = (enc y).length + i * sz by omega, List.drop_append, List.drop_eq_nil_of_le (show (enc y).length ≤ (enc y).length + i * sz by omega)]
      simpa using this
/-- An element's address, and its cells. -/
theorem Own.get (h : Own n sz enc σ s xs) (hc : ∀ x, (enc x).length = sz) {i : Nat} {x : α} (hi : xs[i]? = some x) {k : IntKind} :
    ∃ id, s.has id ∧ gpure (.iaddr sz) [s, .int k (i : Int)] = some (.ptr id (i * sz)) ∧ gload (.load sz true) [.ptr id (i * sz)] σ = some (.agg (enc x)) ∧ ∀ j, j < sz → gload (.load 1 false) [.ptr id (i * sz + j)] σ = (enc x)[j]? := by
  have hlt := get_dom hi
  rcases h with ⟨_, rfl⟩ | ⟨id, cap, rest, h1, rfl, h3, h4⟩
  · simp at hlt
  · have he := elem_cells hc xs rest i x hi
    have h5 : (i + 1) * sz ≤ xs.length * sz := Nat.mul_le_mul_right _ hlt
    rw [Nat.add_mul] at h5
    have hl : (xs.flatMap enc ++ rest).length = xs.length * sz + rest.length := by rw [List.length_append, flatMap_len hc]
    refine ⟨id, ⟨_, _, _, _, rfl⟩, ?_, ?_, fun j hj => ?_⟩
    · simp only [gpure]
      rw [if_pos (by omega)]; simp
    · simp only [gload, h3]
      rw [if_pos trivial, if_pos (by omega), he]
    · simp only [gload, h3]
      rw [← he, List.getElem?_take, if_pos hj, List.getElem?_drop]
      simp
theorem Own.read (h : Own n sz enc σ s xs) (hc : ∀ x, (enc x).length = sz) : gread sz s σ = some (xs.flatMap enc) ∧ glen s = xs.length := by
  rcases h with ⟨rfl, rfl⟩ | ⟨id, cap, rest, h1, rfl, h3, h4⟩
  · exact ⟨rfl, rfl⟩
  · refine ⟨?_, rfl⟩
    by_cases h0 : xs.length = 0
    · simp [gread, List.length_eq_zero_iff.1 h0]
    · have hl : (xs.flatMap enc ++ rest).length = xs.length * sz + rest.length := by rw [List.length_append, flatMap_len hc]
      simp only [gread, if_neg h0, if_pos, h3]
      rw [if_pos (by omega)]
      congr 1
      have := flatMap_len hc xs
      simp [← this]
theorem gread_fsl {sz : Nat} {es : List (List DV)} : gread sz (.fsl sz es) σ = some es.flatten := by simp [gread]
/-- Cells are appended. -/
theorem Own.append {by_ : Nat} {x : DV} {ys : List α} (h : Own n sz enc σ s xs) (hc : ∀ x, (enc x).length = sz) (hx : gread sz x σ = some (ys.flatMap enc)) (hg : glen x = ys.length) (hfl : ∀ y ∈ ys, (enc y).all DV.flat = true) (hn : n ≤ σ.length) (hgo : (xs.length + ys.length) * by_ ≤ 140737488355328) (hb : by_ ≠ 0) :
    ∃ s' σ', gimp (.append sz by_) [s, x] σ = some (s', σ') ∧ Own n sz enc σ' s' (xs ++ ys) ∧ Fr n σ σ' ∧ σ.length ≤ σ'.length ∧ (∀ i, i < σ.length → ¬ s.has i → σ'[i]? = σ[i]?) ∧ (∀ i, s'.has i → s.has i ∨ σ.length ≤ i) ∧ (ys = [] → s' = s ∧ σ' = σ) := by
  have hgo' : ∀ m, m ≤ xs.length + ys.length → growOk m by_ = true := by
    intro m hm
    have : m * by_ ≤ (xs.length + ys.length) * by_ := Nat.mul_le_mul_right _ hm
    simp [growOk, hb]; omega
  have hfl' : (ys.flatMap enc).all DV.flat = true := by
    rw [List.all_eq_true]
    intro d hd
    obtain ⟨y, hy, hd⟩ := List.mem_flatMap.1 hd
    exact List.all_eq_true.1 (hfl y hy) d hd
  by_cases h0 : ys.length = 0
  · have := List.length_eq_zero_iff.1 h0
    subst this
    refine ⟨s, σ, ?_, by simpa using h, .refl hn, Nat.le_refl _, fun _ _ _ => rfl, fun _ hi => .inl hi, fun _ => ⟨rfl, rfl⟩⟩
    rcases h with ⟨rfl, rfl⟩ | ⟨id, cap, rest, h1, rfl, h2, h3⟩
    · simp [gimp, gappend, hx, hg]
    · simp [gimp, gappend, hx, hg]
  have hne : ys ≠ [] := fun e => h0 (by rw [e]; rfl)
  have hyl := flatMap_len hc ys
  have hxl := flatMap_len hc xs
  have hadd : (xs.length + ys.length) * sz = xs.length * sz + ys.length * sz := Nat.add_mul _ _ _
  rcases h with ⟨rfl, rfl⟩ | ⟨id, cap, rest, h1, rfl, h2, h3⟩
  · refine ⟨.slice σ.length 0 ys.length sz none, σ ++ [.row false (ys.flatMap enc)], ?_, ?_, (Fr.refl hn).app _, by simp, fun i hi _ => List.getElem?_append_left hi, fun i ⟨_, _, _, _, e⟩ => by cases e; exact .inr (Nat.le_refl _), fun e => absurd e hne⟩
    · simp [gimp, gappend, hx, hg, hne, hgo' ys.length (by omega)]
    · exact .inr ⟨σ.length, none, [], hn, by simp, by simp, by simp⟩
  · have hid := get_dom h2
    have hrd : gread sz (.slice id 0 xs.length sz cap) σ = some (xs.flatMap enc) := (Own.read (n := n) (.inr ⟨id, cap, rest, h1, rfl, h2, h3⟩) hc).1
    have hnew : ∀ σ', (σ' = σ ++ [.row false (xs.flatMap enc ++ ys.flatMap enc)] ∨ σ' = σ.set id .dead ++ [.row false (xs.flatMap enc ++ ys.flatMap enc)]) → Own n sz enc σ' (.slice σ.length 0 (xs.length + ys.length) sz none) (xs ++ ys) ∧ Fr n σ σ' ∧ σ.length ≤ σ'.length ∧ (∀ i, i < σ.length → ¬ (DV.slice id 0 xs.length sz cap).has i → σ'[i]? = σ[i]?) ∧ (∀ i, (DV.slice σ.length 0 (xs.length + ys.length) sz none).has i → (DV.slice id 0 xs.length sz cap).has i ∨ σ.length ≤ i) := by
      intro σ' hσ
      refine ⟨.inr ⟨σ.length, none, [], hn, by simp, ?_, by simp⟩, ?_, ?_, fun i hi hno => ?_, fun i ⟨_, _, _, _, e⟩ => by cases e; exact .inr (Nat.le_refl _)⟩
      · rcases hσ with rfl | rfl <;> simp
      · rcases hσ with rfl | rfl
        · exact (Fr.refl hn).app _
        · exact ((Fr.refl hn).set h1 _).app _
      · rcases hσ with rfl | rfl <;> simp
      · have hne' : i ≠ id := fun e => hno ⟨_, _, _, _, by rw [e]⟩
        rcases hσ with rfl | rfl
        · exact List.getElem?_append_left hi
        · rw [List.getElem?_append_left (by simpa using hi), List.getElem?_set_ne (fun e => hne' e.symm)]
    cases cap with
    | none =>
      refine ⟨.slice σ.length 0 (xs.length + ys.length) sz none, σ.set id .dead ++ [.row false (xs.flatMap enc ++ ys.flatMap enc)], ?_, ?_⟩
      rotate_left
      · obtain ⟨a, b, c, d, e⟩ := hnew _ (.inr rfl); exact ⟨a, b, c, d, e, fun e => absurd e hne⟩
      simp only [gimp, gappend, hx, hg, if_neg h0, if_pos, h2, hrd]
      rw [if_pos ⟨hgo' _ (Nat.le_refl _), hfl'⟩]
    | some c =>
      by_cases hcc : xs.length + ys.length ≤ c
      · have h4 := h3 c rfl
        have h5 : (xs.length + ys.length) * sz ≤ c * sz := Nat.mul_le_mul_right _ hcc
        refine ⟨.slice id 0 (xs.length + ys.length) sz (some c), σ.set id (.row false (xs.flatMap enc ++ ys.flatMap enc ++ rest.drop (ys.flatMap enc).length)), ?_, ?_, (Fr.refl hn).set h1 _, by simp, ?_, fun i ⟨_, _, _, _, e⟩ => by cases e; exact .inl ⟨_, _, _, _, rfl⟩, fun e => absurd e hne⟩
        · simp only [gimp, gappend, hx, hg, if_neg h0, if_pos, if_pos hcc, h2]
          rw [if_pos ⟨by simp [hxl]; omega, hfl'⟩]
          have : (0 + xs.length * sz : Nat) = (xs.flatMap enc).length := by rw [hxl]; omega
          rw [this, over_end]
        · refine .inr ⟨id, some c, rest.drop (ys.flatMap enc).length, h1, by simp, by simp [hid], fun c' hc' => ?_⟩
          cases hc'; simp only [List.length_append, List.length_drop]; omega
        · intro i hi hno
          have hne' : i ≠ id := fun e => hno ⟨_, _, _, _, by rw [e]⟩
          exact List.getElem?_set_ne (fun e => hne' e.symm)
      · refine ⟨.slice σ.length 0 (xs.length + ys.length) sz none, σ ++ [.row false (xs.flatMap enc ++ ys.flatMap enc)], ?_, ?_⟩
        rotate_left
        · obtain ⟨a, b, c, d, e⟩ := hnew _ (.inl rfl); exact ⟨a, b, c, d, e, fun e => absurd e hne⟩
        simp only [gimp, gappend, hx, hg, if_neg h0, if_pos, if_neg hcc, hrd]
        rw [if_pos (hgo' _ (Nat.le_refl _))]
/-- One element more, behind what is there. -/
theorem Own.push {by_ : Nat} (h : Own n sz enc σ s xs) (x : α) (hc : ∀ x, (enc x).length = sz) (hfl : (enc x).all DV.flat = true) (hn : n ≤ σ.length) (hgo : (xs.length + 1) * by_ ≤ 140737488355328) (hb : by_ ≠ 0) :
    ∃ s' σ', gimp (.append sz by_) [s, .slice σ.length 0 1 sz (some 1)] (σ ++ [.row false (enc x)]) = some (s', σ') ∧ Own n sz enc σ' s' (xs ++ [x]) ∧ Fr n σ σ' ∧ σ.length ≤ σ'.length ∧ (∀ i, i < σ.length → ¬ s.has i → σ'[i]? = σ[i]?) ∧ (∀ i, s'.has i → s.has i ∨ σ.length ≤ i) := by
  have hx : Own n sz enc (σ ++ [.row false (enc x)]) (.slice σ.length 0 [x].length sz (some 1)) [x] := Own.at_ hn (by simp) (by simp)
  obtain ⟨r1, r2⟩ := hx.read hc
  obtain ⟨s', σ', q1, q2, q3, q4, q5, q6, _⟩ := (h.fr (Fr.rfl'.app [.row false (enc x)])).append (ys := [x]) hc r1 r2 (by simpa using hfl) (by simp; omega) (by simpa using hgo) hb
  refine ⟨s', σ', q1, q2, ((Fr.refl hn).app _).trans q3, by simp at q4; omega, fun i hi hno => ?_, fun i hi => (q6 i hi).imp id fun h => by simp at h; omega⟩
  rw [q5 i (by simp; omega) hno, List.getElem?_append_left hi]
theorem flatMap_flatten {α : Type} (enc : α → List DV) (xs : List α) : (xs.map enc).flatten = xs.flatMap enc := rfl
/-- How it reads when nobody writes it any more. -/
theorem Own.rd {ok : Nat → Prop} (h : Own n sz enc σ s xs) (hc : ∀ x, (enc x).length = sz) (hok : ∀ i, n ≤ i → ok i) : Rd σ ok s (.fsl sz (xs.map enc)) := by
  rcases h with ⟨rfl, rfl⟩ | ⟨id, cap, rest, h1, rfl, h3, h4⟩
  · exact .nils sz
  · have hl : (xs.flatMap enc ++ rest).length = xs.length * sz + rest.length := by rw [List.length_append, flatMap_len hc]
    have := Rd.slice (σ := σ) (ok := ok) (id := id) (off := 0) (sz := sz) (cap := cap) (es := xs.map enc) (hok id h1) h3 (by rw [hl, List.length_map]; omega) (fun e he => by obtain ⟨x, _, rfl⟩ := List.mem_map.1 he; exact hc x) (by
      have hf := flatMap_len hc xs
      simp only [List.drop_zero, List.length_map, flatMap_flatten]
      rw [← hf, List.take_left]
      exact Rds.refl _)
    simpa using this
end
theorem flatMap_one {α : Type} (f : α → DV) (xs : List α) : (xs.flatMap fun x => [f x]) = xs.map f := by induction xs <;> simp_all
/-- Of what a function has laid itself. -/
abbrev OkN (n : Nat) (σ : GS) : Nat → Prop := fun i => n ≤ i ∨ RO σ i
/-- Numbers and truths alone come back. -/
theorem GCall.say {P : Program} {f : FuncId} {args : List DV} {σ : GS} {Post : DV → GS → Prop} {r : DV} (h : GCall P f args σ fun v σ' => Fr σ.length σ σ' ∧ v = r) (hc : r.closed = true) (k : Post r σ) : GCall P f args σ Post :=
  GCall.pure (h.mono fun v σ' ⟨h1, h2⟩ => ⟨h1, by subst h2; exact .same _⟩) hc k
theorem Own.set {α : Type} {n : Nat} {f : α → DV} {σ : GS} {s : DV} {xs : List α} (h : Own n 1 (fun x => [f x]) σ s xs) {i : Nat} (hi : i < xs.length) (y : α) (hy : (f y).flat = true) {k : IntKind} :
    ∃ id σ', s.has id ∧ gpure (.iaddr 1) [s, .int k (i : Int)] = some (.ptr id i) ∧ gimp (.store 1) [.ptr id i, f y] σ = some (.tuple [], σ') ∧ Own n 1 (fun x => [f x]) σ' s (xs.set i y) ∧ σ'.length = σ.length ∧ (∀ j, ¬ s.has j → σ'[j]? = σ[j]?) := by
  rcases h with ⟨_, rfl⟩ | ⟨id, cap, rest, h1, rfl, h3, h4⟩
  · simp at hi
  · have hl : (xs.flatMap fun x => [f x]) = xs.map f := flatMap_one f xs
    have hid := get_dom h3
    refine ⟨id, σ.set id (.row false ((xs.set i y).flatMap (fun x => [f x]) ++ rest)), ⟨_, _, _, _, rfl⟩, ?_, ?_, .inr ⟨id, cap, rest, h1, by simp, by simp [hid], by simpa using h4⟩, by simp, fun j hj => List.getElem?_set_ne fun e => hj ⟨_, _, _, _, by rw [e]⟩⟩
    · rw [iaddr_own hi]; simp
    · simp only [gimp, h3, cells_of_flat hy]
      have hl2 : ((xs.set i y).flatMap fun x => [f x]) = (xs.map f).set i (f y) := by
        rw [flatMap_one, List.map_set]
      rw [if_pos ⟨rfl, by rw [hl]; simp; omega, by simp [hy]⟩, over_one (by rw [hl]; simp; omega), hl2, hl, List.set_append_left _ _ (by simpa using hi)]
end Go.Gh
namespace Go.Gh
open Go.RowKit
set_option linter.unusedVariables false
set_option linter.unusedSimpArgs false
section
variable {σ τ : GS} {n k off : Nat} {b : Bool} {o : GObj} {ro : Bool} {cs zs : List DV}
/-- Loads and stores in the objects behind a heap that is not looked into. -/
@[simp] theorem ld_tail : gload (.load n b) [.ptr (σ.length + k) off] (σ ++ τ) = gload (.load n b) [.ptr k off] τ := by
  simp only [gload]; rw [List.getElem?_append_right (by omega)]; simp
@[simp] theorem ld_tail0 : gload (.load n b) [.ptr σ.length off] (σ ++ τ) = gload (.load n b) [.ptr 0 off] τ := by
  simp only [gload]; rw [List.getElem?_append_right (by omega)]; simp
@[simp] theorem ld_succ : gload (.load n b) [.ptr (k + 1) off] (o :: τ) = gload (.load n b) [.ptr k off] τ := rfl
@[simp] theorem ld_zero_f : gload (.load n false) [.ptr 0 off] (.row ro cs :: τ) = cs[off]? := rfl
@[simp] theorem ld_zero_t : gload (.load n true) [.ptr 0 off] (.row ro cs :: τ) = if off + n ≤ cs.length then some (.agg ((cs.drop off).take n)) else none := rfl
theorem ld_app {id : Nat} (h : id < σ.length) : gload (.load n b) [.ptr id off] (σ ++ τ) = gload (.load n b) [.ptr id off] σ := by
  simp only [gload]; rw [List.getElem?_append_left h]
@[simp] theorem st_tail {v : DV} : gimp (.store n) [.ptr (σ.length + k) off, v] (σ ++ τ) = (gimp (.store n) [.ptr k off, v] τ).map fun p => (p.1, σ ++ p.2) := by
  have hs : ∀ o : GObj, List.set (σ ++ τ) (σ.length + k) o = σ ++ τ.set k o := fun o => by rw [List.set_append_right _ _ (by omega)]; simp
  simp only [gimp]
  rw [List.getElem?_append_right (by omega), Nat.add_sub_cancel_left]
  cases hk : τ[k]? with
  | none => rfl
  | some o =>
    cases o with
    | row r cs =>
      cases r with
      | true => rfl
      | false =>
        cases v.cells with
        | none => rfl
        | some new => simp only [hs]; split <;> simp
    | _ => rfl
@[simp] theorem st_tail0 {v : DV} : gimp (.store n) [.ptr σ.length off, v] (σ ++ τ) = (gimp (.store n) [.ptr 0 off, v] τ).map fun p => (p.1, σ ++ p.2) := st_tail (k := 0)
@[simp] theorem st_succ {v : DV} : gimp (.store n) [.ptr (k + 1) off, v] (o :: τ) = (gimp (.store n) [.ptr k off, v] τ).map fun p => (p.1, o :: p.2) := by
  simp only [gimp, List.getElem?_cons_succ, List.set_cons_succ]
  cases hk : τ[k]? with
  | none => rfl
  | some o =>
    cases o with
    | row r cs =>
      cases r with
      | true => rfl
      | false =>
        cases v.cells with
        | none => rfl
        | some new => simp only; split <;> simp
    | _ => rfl
@[simp] theorem st_zero {v : DV} (h : off < zs.length) (hv : v.flat = true) : gimp (.store 1) [.ptr 0 off, v] (.row false zs :: τ) = some (.tuple [], .row false (zs.set off v) :: τ) := by
  simp only [gimp, cells_of_flat hv, List.getElem?_cons_zero]
  rw [if_pos ⟨rfl, by omega, by simp [hv]⟩, over_one h]
  rfl
@[simp] theorem st_zero_agg (h1 : cs.length = n) (h2 : zs.length = n) (h3 : cs.all DV.flat = true) : gimp (.store n) [.ptr 0 0, .agg cs] (.row false zs :: τ) = some (.tuple [], .row false cs :: τ) := by
  simp only [gimp, cells_agg, List.getElem?_cons_zero]
  rw [if_pos ⟨h1, by omega, h3⟩]
  have : over zs 0 cs = cs := by
    unfold over
    simp [List.drop_eq_nil_of_le (show zs.length ≤ 0 + cs.length by omega)]
    omega
  rw [this]; rfl
@[simp] theorem Fr.self (τ : GS) : Fr σ.length σ (σ ++ τ) := Fr.rfl'.app τ
end
@[simp] theorem ga_b1_int {z : DV} (k : IntKind) (x : Int) : galloc (.bslice 1 [z] 1 [(0, 1)]) [.int k x] = some (.row false [.int k x], fun id => .slice id 0 1 1 (some 1)) := ga_b1_flat rfl
attribute [simp] ga_b1_agg box_flat
@[simp] theorem getE_tail {α : Type} {l τ : List α} {k : Nat} : (l ++ τ)[l.length + k]? = τ[k]? := by rw [List.getElem?_append_right (by omega)]; simp
@[simp] theorem getE_tail0 {α : Type} {l τ : List α} : (l ++ τ)[l.length]? = τ[0]? := by rw [List.getElem?_append_right (by omega)]; simp
end Go.Gh
namespace Go.Gh
open Go.RowKit
set_option linter.unusedVariables false
set_option linter.unusedSimpArgs false
def isVar (v : Int) : Bool := decide (1 ≤ v) && decide (v ≤ 65536)
def gabs (l : Int) : Int := if l < 0 then max 0 (IntKind.i64.wrap (-l)) else l
def nstep (o : Option Int) (l : Int) : Option Int := o.bind fun prev => if isVar (gabs l) && decide (prev < gabs l) then some (gabs l) else none
/-- Is a list of literals normal? -/
def normal (a : List Int) : Bool := (a.foldl nstep (some 0)).isSome
end Go.Gh
namespace Go.Gh
open Go.RowKit
set_option linter.unusedVariables false
set_option linter.unusedSimpArgs false
theorem drop_get {α : Type} {l : List α} {i : Nat} {x : α} (h : l[i]? = some x) : l.drop i = x :: l.drop (i + 1) := by
  obtain ⟨hi, rfl⟩ := List.getElem?_eq_some_iff.1 h
  exact List.drop_eq_getElem_cons hi
theorem take_get {α : Type} {l : List α} {i : Nat} {x : α} (h : l[i]? = some x) : l.take (i + 1) = l.take i ++ [x] := by
  obtain ⟨hi, rfl⟩ := List.getElem?_eq_some_iff.1 h
  rw [List.take_succ_eq_append_getElem hi]
def whK (n : Nat) [I : Bx (Nat → Env → GS → Prop)] [Q : Bx (Exit → Env → GS → Prop)] (e : Exit) (env : Env) (σ : GS) : Prop := match e with | .normal => ∃ m e1, m < n ∧ leL e1 env ∧ I.val m e1 σ | e => Q.val e env σ
@[simp] theorem whK_ret (n : Nat) (I : Bx (Nat → Env → GS → Prop)) (Q : Bx (Exit → Env → GS → Prop)) (env : Env) (σ : GS) : @whK n I Q .ret env σ = Q.val .ret env σ := rfl
@[simp] theorem whK_exit (n j : Nat) (I : Bx (Nat → Env → GS → Prop)) (Q : Bx (Exit → Env → GS → Prop)) (env : Env) (σ : GS) : @whK n I Q (.exit j) env σ = Q.val (.exit j) env σ := rfl
theorem whK_go {n : Nat} {I : Bx (Nat → Env → GS → Prop)} {Q : Bx (Exit → Env → GS → Prop)} {env : Env} {σ : GS} (m : Nat) (e1 : Env) (h1 : m < n) (h2 : leL e1 env) (h3 : I.val m e1 σ) : @whK n I Q .normal env σ := ⟨m, e1, h1, h2, h3⟩
/-- A loop with a measure. -/
theorem gwhile {P : Program} {c : Bx GCode} {env : Env} {σ : GS} {k : Bx (Exit → Env → GS → Prop)} (e1 : Env) (n : Nat) (I : Nat → Env → GS → Prop) (hle : leL e1 env) (h0 : I n e1 σ)
    (hr : ∀ n env σ, I n env σ → @exB P c env σ ⟨@whK n ⟨I⟩ k⟩) : @loopB P env σ c k := by
  refine gloop_intro e1 n I hle h0 fun n env σ hI => gexec_mono (hr n env σ hI) fun e env σ h => ?_
  cases e <;> exact h
/-- A graph. -/
structure AigP where
  ins : List Int
  ands : List (Int × Int)
abbrev eand (p : Int × Int) : List DV := [.int .i64 p.1, .int .i64 p.2]
abbrev fands (l : List (Int × Int)) : DV := .fsl 2 (l.map eand)
abbrev AigP.enc (g : AigP) : DV := .agg [fints g.ins, fands g.ands]
@[simp] theorem closed_fands (l : List (Int × Int)) : (fands l).closed = true := closedss_map fun _ _ => rfl
def AigP.nodes (g : AigP) : Nat := 1 + g.ins.length + g.ands.length
/-- Do inputs ascend, and are they variables? -/
def insOk (last : Int) : List Int → Bool
  | [] => true
  | v :: l => isVar v && decide (last < v) && insOk v l
def andsOk (most : Int) : List (Int × Int) → Bool
  | [] => true
  | p :: l => decide (0 ≤ p.1) && decide (0 ≤ p.2) && decide (p.1 < most) && decide (p.2 < most) && andsOk (most + 2) l
/-- Is a graph valid? -/
def AigP.may (g : AigP) : Bool := insOk 0 g.ins && decide (g.nodes ≤ 200000) && andsOk (2 * (1 + g.ins.length)) g.ands
/-- Where a list has its first element of a kind, from k on; -1: nowhere. -/
def idxF {α : Type} (p : α → Bool) : Nat → List α → Int
  | _, [] => -1
  | k, x :: xs => if p x then (k : Int) else idxF p (k + 1) xs
theorem idxF_any {α : Type} (p : α → Bool) : ∀ (k : Nat) (xs : List α), decide (0 ≤ idxF p k xs) = xs.any p
  | k, [] => by simp [idxF]
  | k, x :: xs => by
    simp only [idxF, List.any_cons]
    split
    · rename_i h; simp [h]
    · rename_i h; simp [h, idxF_any p (k + 1) xs]
def normR (last : Int) : List Int → Bool
  | [] => true
  | x :: l => isVar (gabs x) && decide (last < gabs x) && normR (gabs x) l
theorem normR_fold : ∀ (a : List Int) (s : Int), (a.foldl nstep (some s)).isSome = normR s a
  | [], s => rfl
  | x :: a, s => by
    have hnone : ∀ l : List Int, (l.foldl nstep none).isSome = false := by
      intro l; induction l with
      | nil => rfl
      | cons x l ih => exact ih
    simp only [List.foldl_cons, normR]
    by_cases h : (isVar (gabs x) && decide (s < gabs x)) = true
    · have : nstep (some s) x = some (gabs x) := by simp only [nstep, Option.bind_some, h, if_true]
      rw [this, normR_fold a, h]; simp
    · have : nstep (some s) x = none := by simp only [nstep, Option.bind_some, h]; rfl
      rw [this, hnone]
      simp only [Bool.not_eq_true] at h
      rw [h]; simp
theorem normal_eq (a : List Int) : normal a = normR 0 a := normR_fold a 0
/-- All numbers are whole numbers of the machine. -/
def I64 (xs : List Int) : Prop := ∀ x ∈ xs, -9223372036854775808 ≤ x ∧ x < 9223372036854775808
end Go.Gh
namespace Go.Gh
open Go.RowKit
set_option linter.unusedVariables false
set_option linter.unusedSimpArgs false
@[simp] theorem gres_nil (env : Env) (σ : GS) : gresL env σ [] = some [] := rfl
@[simp] theorem gresV_nil : gresV [] = .tuple [] := rfl
@[simp] theorem gres_three (env : Env) (σ : GS) (t u x : Tmp) : gresL env σ [.tmp t, .tmp u, .tmp x] = some [env[t]?.getD (.tuple []), env[u]?.getD (.tuple []), env[x]?.getD (.tuple [])] := rfl
@[simp] theorem gres_four (env : Env) (σ : GS) (t u x y : Tmp) : gresL env σ [.tmp t, .tmp u, .tmp x, .tmp y] = some [env[t]?.getD (.tuple []), env[u]?.getD (.tuple []), env[x]?.getD (.tuple []), env[y]?.getD (.tuple [])] := rfl
@[simp] theorem gresV_three (a b c : DV) : gresV [a, b, c] = .tuple [a, b, c] := rfl
@[simp] theorem gresV_four (a b c d : DV) : gresV [a, b, c, d] = .tuple [a, b, c, d] := rfl
@[simp] theorem idOf_slice (a b c d : Nat) (e : Option Nat) : (DV.slice a b c d e).idOf = some a := rfl
@[simp] theorem idOf_ptr (a b : Nat) : (DV.ptr a b).idOf = some a := rfl
@[simp] theorem idOf_map (a : Nat) : (DV.map a).idOf = some a := rfl
@[simp] theorem grec1_new (t : Tmp) (k : AK) (az : List GArg) (env : Env) (σ σ' : GS) : grec1 ⟨some t, none, .new k, az⟩ env σ σ' = match (env[t]?).bind DV.idOf with | some id => σ'[id]? = σ[id]? | none => False := rfl
/-- The opposite of an edge. -/
def notE (e : Int) : Int := e + 1 - 2 * (e % 2)
/-- An edge, turned if b is odd. -/
def turnE (t b : Int) : Int := if b % 2 = 1 then notE t else t
theorem notE_range {e n : Int} (h0 : 0 ≤ e) (h1 : e < 2 * n) : 0 ≤ notE e ∧ notE e < 2 * n := by unfold notE; omega
end Go.Gh
namespace Go.Gh
open Go.RowKit
set_option linter.unusedVariables false
set_option linter.unusedSimpArgs false
def pairsUnder (n : Nat) (es : List (DV × DV)) : Bool := es.all fun p => p.1.under n && p.2.under n
def GObj.under (n : Nat) : GObj → Bool
  | .row _ cs => unders n cs
  | .mp es _ => pairsUnder n es
  | .it m _ _ _ => m.all (· < n)
  | .loop lg => unders n lg.env
  | .dead => true
theorem pairsUnder_mem {n : Nat} {es : List (DV × DV)} (h : pairsUnder n es = true) : ∀ p ∈ es, p.1.under n = true ∧ p.2.under n = true := fun p hp => by
  have := List.all_eq_true.1 h p hp
  simpa using this
/-- The later ghost objects are forgotten. -/
theorem Rel.cutAt {N : Nat} {w0 : World} {ρ : Ren} {σ : GS} {w : World} (h : Rel N w0 ρ σ w) (n : Nat) (hn : n ≤ σ.length) (hu : ∀ i L o, i < n → ρ i = some L → σ[i]? = some o → o.under n = true) : Rel N w0 (ρ.cut n) (σ.take n) w where
  below := h.below
  hN := h.hN
  dom := fun id L hl => by have := (Ren.cut_some hl).1; simp; omega
  lt := fun id L hl => h.lt id L (Ren.cut_some hl).2
  row := fun id L ro cs hl hs => by
    obtain ⟨hid, hl⟩ := Ren.cut_some hl
    rw [List.getElem?_take, if_pos hid] at hs
    obtain ⟨a, b, c⟩ := h.row id L ro cs hl hs
    have hu : ∀ (j : Nat) (v : DV), cs[j]? = some v → v.under n = true := fun j v hv => unders_get (hu id L _ hid hl hs) hv
    exact ⟨fun j v hv => let ⟨rv, g1, g2⟩ := a j v hv; ⟨rv, g1, VR.cut _ _ (hu j v hv) g2⟩, fun hro j v hv => let ⟨rv, g1, g2⟩ := b hro j v hv; ⟨rv, g1, VR.cut _ _ (hu j v hv) g2⟩, c⟩
  obj := fun id L o hl hs hsp => by
    obtain ⟨hid, hl⟩ := Ren.cut_some hl
    rw [List.getElem?_take, if_pos hid] at hs
    obtain ⟨a, x, b, c⟩ := h.obj id L o hl hs hsp
    have hu := hu id L o hid hl hs
    refine ⟨a, x, b, ?_⟩
    cases o <;> simp only [ObjR] at c ⊢
    · obtain ⟨rs, h1, h2, h3⟩ := c
      exact ⟨rs, h1, h2.cut (pairsUnder_mem hu), h3⟩
    · rename_i m _ _ _
      obtain ⟨mm, h1, h2, h3⟩ := c
      refine ⟨mm, h1, h2, ?_⟩
      cases m with
      | none => exact h3
      | some k =>
        obtain ⟨M, g1, g2⟩ := h3
        exact ⟨M, by simp only [Ren.cut]; rw [if_pos (by simpa [GObj.under] using hu)]; exact g1, g2⟩
    · obtain ⟨r, h1, h2⟩ := c
      exact ⟨r, h1, ⟨VRs.cut _ _ hu h2.env, h2.ps, h2.asg, h2.body, h2.st, h2.pend⟩⟩
  disj := fun i j Li Lj hij hi hj oi oj => by
    have ho : ∀ i, i < n → own (σ.take n) i → own σ i := fun i hi h => by unfold own at h ⊢; rwa [List.getElem?_take, if_pos hi] at h
    exact h.disj i j Li Lj hij (Ren.cut_some hi).2 (Ren.cut_some hj).2 (ho i (Ren.cut_some hi).1 oi) (ho j (Ren.cut_some hj).1 oj)
  fzw := h.fzw
  fzo := fun b o v i L hv hi oi => h.fzo b o v i L hv (Ren.cut_some hi).2 (by
    unfold own at oi ⊢; rwa [List.getElem?_take, if_pos (Ren.cut_some hi).1] at oi)
theorem Rel.under {N : Nat} {w0 : World} {ρ : Ren} {σ : GS} {w : World} (h : Rel N w0 ρ σ w) {i : Nat} {L : Loc} {o : GObj} (hL : ρ i = some L) (hs : σ[i]? = some o) : o.under σ.length = true := by
  have hd : ∀ i M, ρ i = some M → i < σ.length := fun i M hM => h.dom i M hM
  cases o with
  | row ro cs =>
    obtain ⟨a, _⟩ := h.row i L ro cs hL hs
    have : ∀ l : List DV, (∀ (j : Nat) (v : DV), l[j]? = some v → v.under σ.length = true) → unders σ.length l = true := by
      intro l
      induction l with
      | nil => intro _; rfl
      | cons x l ih =>
        intro hh
        simp only [unders, Bool.and_eq_true]
        exact ⟨hh 0 x rfl, ih fun j v hv => hh (j + 1) v (by simpa using hv)⟩
    exact this cs fun j v hv => let ⟨rv, _, g⟩ := a j v hv; VR.under hd _ _ g
  | it m s e l =>
    obtain ⟨_, x, _, c⟩ := h.obj i L _ hL hs rfl
    obtain ⟨mm, h1, h2, h3⟩ := c
    cases m with
    | none => rfl
    | some k => obtain ⟨M, g1, _⟩ := h3; simpa [GObj.under] using hd _ _ g1
  | mp es st =>
    obtain ⟨_, x, _, c⟩ := h.obj i L _ hL hs rfl
    obtain ⟨rs, h1, h2, _⟩ := c
    simp only [GObj.under, pairsUnder, List.all_eq_true, Bool.and_eq_true]
    exact h2.under hd
  | loop lg =>
    obtain ⟨_, x, _, c⟩ := h.obj i L _ hL hs rfl
    obtain ⟨r, h1, h2⟩ := c
    exact VRs.under hd _ _ h2.env
  | dead => rfl
section
variable {P : Program} {f : FuncId} {args : List DV} {σ : GS} {Post : DV → GS → Prop}
/-- Behind a call, what it has laid itself is forgotten. -/
theorem GCall.cut (h : GCall P f args σ fun v σ' => (∀ i o, i < σ.length → σ'[i]? = some o → σ[i]? = some o ∨ o.under σ.length = true) ∧ v.under σ.length = true ∧ Post v (σ'.take σ.length)) : GCall P f args σ Post := by
  refine ⟨h.1, fun N w0 ρ w rargs hr hv => (h.2 N w0 ρ w rargs hr hv).mono ?_⟩
  rintro e w' ⟨v, rv, ρ', σ', rfl, q1, q2, q3, q4, q5, q6, q7⟩
  refine ⟨v, rv, ρ'.cut σ.length, σ'.take σ.length, rfl, q1.cutAt σ.length q3 fun i L o hi hL hs => ?_, ⟨⟨fun id hid => by rw [Ren.cut_lt hid]; exact q2.grow.keep id hid, q2.grow.fz⟩, fun id L hL => q2.new id L (Ren.cut_some hL).2, q2.size, q2.frame, q2.loops⟩, by simp; omega, VR.cut _ _ q6 q4, q7⟩
  rcases q5 i o hi hs with h' | h'
  · exact hr.under (L := L) (by rw [← q2.grow.keep i hi]; exact hL) h'
  · exact h'
end
/-- An element of a row of one's own. -/
theorem ld_bools {σ : GS} {id i : Nat} {ro : Bool} {vs : List Bool} {x : Bool} (h : σ[id]? = some (.row ro (bools vs))) (hx : vs[i]? = some x) : gload (.load 1 false) [.ptr id i] σ = some (.bool x) := by rw [ld_at h]; simp [hx]
end Go.Gh
namespace Go.Gh
open Go.RowKit
set_option linter.unusedVariables false
set_option linter.unusedSimpArgs false
/-- A kind of keys: how they lie, and that == tells them apart. -/
class KeyE {κ : Type} [DecidableEq κ] (kt : KT) (ek : κ → DV) : Prop where
  eq : ∀ a b, keyEq kt (ek a) (ek b) = some (decide (a = b))
  fits : ∀ a, keyFits kt (ek a) = true
abbrev kint (x : Int) : DV := .int .i64 x
abbrev kpair (p : Int × Int) : DV := .agg [.int .i64 p.1, .int .i64 p.2]
instance : KeyE (.int .i64) kint where
  eq a b := by simp only [kint, keyEq, and_self, if_true]; rfl
  fits a := rfl
instance : KeyE (.arr2 .i64) kpair where
  eq a b := by
    simp only [kpair, keyEq, and_self, if_true]
    congr 1
    obtain ⟨a1, a2⟩ := a; obtain ⟨b1, b2⟩ := b
    simp only [Prod.mk.injEq, Bool.decide_and]; rfl
  fits a := rfl
section
variable {κ : Type} [DecidableEq κ]
/-- What a list of pairs says of a key. -/
def kget (k : κ) : List (κ × DV) → Option DV
  | [] => none
  | (a, v) :: l => if k = a then some v else kget k l
def kset (k : κ) (v : DV) : List (κ × DV) → List (κ × DV)
  | [] => [(k, v)]
  | (a, u) :: l => if k = a then (k, v) :: l else (a, u) :: kset k v l
def kdel (k : κ) : List (κ × DV) → List (κ × DV)
  | [] => []
  | (a, u) :: l => if k = a then l else (a, u) :: kdel k l
theorem kget_mem {k : κ} {v : DV} : ∀ {l : List (κ × DV)}, kget k l = some v → (k, v) ∈ l
  | (a, u) :: l, h => by
    simp only [kget] at h
    split at h
    · rename_i hk; cases h; subst hk; exact List.mem_cons_self
    · exact List.mem_cons_of_mem _ (kget_mem h)
theorem kget_none {k : κ} : ∀ {l : List (κ × DV)}, kget k l = none ↔ k ∉ l.map (·.1)
  | [] => by simp [kget]
  | (a, u) :: l => by
    simp only [kget, List.map_cons, List.mem_cons, not_or]
    split
    · rename_i h; simp [h]
    · rename_i h; rw [kget_none]; simp [h]
theorem kget_nodup {k : κ} {v : DV} : ∀ {l : List (κ × DV)}, (l.map (·.1)).Nodup → (k, v) ∈ l → kget k l = some v
  | (a, u) :: l, hn, h => by
    simp only [List.map_cons, List.nodup_cons] at hn
    simp only [kget]
    rcases List.mem_cons.1 h with h | h
    · cases h; simp
    · have : k ≠ a := fun e => hn.1 (List.mem_map.2 ⟨(k, v), h, e⟩)
      rw [if_neg this]; exact kget_nodup hn.2 h
theorem kset_keys {k : κ} {v : DV} : ∀ {l : List (κ × DV)}, k ∈ l.map (·.1) → (kset k v l).map (·.1) = l.map (·.1)
  | [], h => by simp at h
  | (a, u) :: l, h => by
    simp only [kset]
    split
    · rename_i h1; subst h1; rfl
    · rename_i h1
      simp only [List.map_cons, List.mem_cons] at h ⊢
      rw [kset_keys (h.resolve_left h1)]
theorem kset_new {k : κ} {v : DV} : ∀ {l : List (κ × DV)}, k ∉ l.map (·.1) → kset k v l = l ++ [(k, v)]
  | [], h => rfl
  | (a, u) :: l, h => by
    simp only [List.map_cons, List.mem_cons, not_or] at h
    simp only [kset, if_neg h.1, kset_new h.2, List.cons_append]
theorem kset_nodup {k : κ} {v : DV} {l : List (κ × DV)} (h : (l.map (·.1)).Nodup) : ((kset k v l).map (·.1)).Nodup := by
  by_cases hk : k ∈ l.map (·.1)
  · rw [kset_keys hk]; exact h
  · rw [kset_new hk, List.map_append, List.nodup_append]
    refine ⟨h, by simp, fun a ha b hb => ?_⟩
    simp at hb; subst hb; exact fun e => hk (e ▸ ha)
def kenc (ek : κ → DV) (l : List (κ × DV)) : List (DV × DV) := l.map fun p => (ek p.1, p.2)
/-- Stamps of a map with n entries. -/
structure StOk (st : List Nat × Nat) (n : Nat) : Prop where
  len : st.1.length = n
  nodup : st.1.Nodup
  lt : ∀ b ∈ st.1, b < st.2
/-- A map in the heap. -/
def MpO (ek : κ → DV) (σ : GS) (id : Nat) (l : List (κ × DV)) : Prop := (l.map (·.1)).Nodup ∧ ∃ st, StOk st l.length ∧ σ[id]? = some (.mp (kenc ek l) st)
variable {kt : KT} {ek : κ → DV} [hE : KeyE kt ek]
theorem gfind_kget (k : κ) : ∀ (l : List (κ × DV)) (n : Nat), match kget k l with
    | none => gfind kt (ek k) (kenc ek l) n = some none
    | some v => ∃ i, gfind kt (ek k) (kenc ek l) n = some (some (n + i, v)) ∧ (∀ u, (kenc ek l).set i (ek k, u) = kenc ek (kset k u l)) ∧ (kenc ek l).eraseIdx i = kenc ek (kdel k l) ∧ i < l.length
  | [], n => rfl
  | (a, u) :: l, n => by
    have ih := gfind_kget k l (n + 1)
    by_cases h : k = a
    · subst h
      simp only [kget, if_true]
      exact ⟨0, by simp [gfind, kenc, hE.eq], fun u => by simp [kenc, kset], by simp [kenc, kdel], by simp⟩
    · simp only [kget, if_neg h]
      cases hk : kget k l with
      | none => simp only [hk] at ih; simpa [gfind, kenc, hE.eq, h] using ih
      | some v =>
        simp only [hk] at ih
        obtain ⟨i, h1, h2, h3, h4⟩ := ih
        refine ⟨i + 1, ?_, fun u => ?_, ?_, by simp; omega⟩
        · have : gfind kt (ek k) (kenc ek ((a, u) :: l)) n = gfind kt (ek k) (kenc ek l) (n + 1) := by simp [gfind, kenc, hE.eq, h]
          rw [this, h1]; congr 3; omega
        · have := h2 u; simp only [kenc, List.map_cons, List.set_cons_succ, kset, if_neg h] at this ⊢; rw [this]
        · have := h3; simp only [kenc, List.map_cons, List.eraseIdx_cons_succ, kdel, if_neg h] at this ⊢; rw [this]
theorem MpO.lookup {σ : GS} {id : Nat} {l : List (κ × DV)} (h : MpO ek σ id l) (k : κ) (z : DV) (ok : Bool) :
    gload (.lookup kt z ok) [.map id, ek k] σ = some (match kget k l with | some v => if ok then .tuple [v, .bool true] else v | none => if ok then .tuple [z, .bool false] else z) := by
  obtain ⟨_, st, _, h1⟩ := h
  have := gfind_kget (kt := kt) (ek := ek) k l 0
  simp only [gload, hE.fits, h1, if_true]
  cases hk : kget k l with
  | none => simp only [hk] at this; rw [this]; rfl
  | some v => simp only [hk] at this; obtain ⟨i, h2, _⟩ := this; rw [h2]; rfl
theorem MpO.set {σ : GS} {id : Nat} {l : List (κ × DV)} (h : MpO ek σ id l) (k : κ) (v : DV) :
    ∃ o, gimp (.mset kt) [.map id, ek k, v] σ = some (.tuple [], σ.set id o) ∧ MpO ek (σ.set id o) id (kset k v l) := by
  obtain ⟨h0, st, hs, h1⟩ := h
  have hid := get_dom h1
  have := gfind_kget (kt := kt) (ek := ek) k l 0
  simp only [gimp, hE.fits, h1, if_true]
  cases hk : kget k l with
  | none =>
    simp only [hk] at this; rw [this]
    refine ⟨_, rfl, kset_nodup h0, _, ?_, by rw [List.getElem?_set_self hid, kset_new (kget_none.1 hk)]; simp [kenc]; rfl⟩
    rw [kset_new (kget_none.1 hk)]
    refine ⟨by simp [hs.len], ?_, fun b hb => ?_⟩
    · rw [List.nodup_append]
      refine ⟨hs.nodup, by simp, fun a ha b hb => ?_⟩
      simp at hb; subst hb; have := hs.lt a ha; omega
    · rcases List.mem_append.1 hb with hb | hb
      · have := hs.lt b hb; simp; omega
      · simp at hb; subst hb; simp
  | some u =>
    simp only [hk] at this; obtain ⟨i, h2, h3, _, hi⟩ := this; rw [h2]
    have hkm : k ∈ l.map (·.1) := by
      exact List.mem_map.2 ⟨(k, u), kget_mem hk, rfl⟩
    refine ⟨_, rfl, kset_nodup h0, st, ?_, by rw [List.getElem?_set_self hid]; simp only [Nat.zero_add]; rw [h3]⟩
    have : (kset k v l).length = l.length := by have := congrArg List.length (kset_keys (v := v) hkm); simpa using this
    rw [this]; exact hs
end
section
variable {κ : Type} {ek : κ → DV}
theorem MpO.mlen {σ : GS} {id : Nat} {l : List (κ × DV)} (h : MpO ek σ id l) : gload .mlen [.map id] σ = some (.int .i64 l.length) := by
  obtain ⟨_, st, _, h1⟩ := h
  simp [gload, h1, kenc]
theorem MpO.fit {σ σ' : GS} {id : Nat} {l : List (κ × DV)} (h : MpO ek σ id l) (hf : σ'[id]? = σ[id]?) : MpO ek σ' id l := by
  obtain ⟨h0, st, hs, h1⟩ := h
  exact ⟨h0, st, hs, hf.trans h1⟩
theorem MpO.new {σ τ : GS} : MpO ek (σ ++ .mp [] ([], 0) :: τ) σ.length ([] : List (κ × DV)) := ⟨by simp, ([], 0), ⟨rfl, by simp, by simp⟩, by simp [kenc]⟩
theorem MpO.dom {σ : GS} {id : Nat} {l : List (κ × DV)} (h : MpO ek σ id l) : id < σ.length := by obtain ⟨_, st, _, h1⟩ := h; exact get_dom h1
end
end Go.Gh
namespace Go.Gh
open Go.RowKit
set_option linter.unusedVariables false
set_option linter.unusedSimpArgs false
/-- The loops over iterators in a text, from the top: what they assign, and their bodies. -/
def rngs : Code → List (Code × Code)
  | .seq a b => rngs a ++ rngs b
  | .cond _ a b => rngs a ++ rngs b
  | .block _ c => rngs c
  | .loop c => rngs c
  | .rangeFunc _ _ asg body => [(asg, body)]
  | _ => []
def rngAs (c : Code) (k : Nat) : Code := match (rngs c)[k]? with | some p => p.1 | none => .skip
def rngBs (c : Code) (k : Nat) : Code := match (rngs c)[k]? with | some p => p.2 | none => .skip
def rngA (fn : Func) (k : Nat) : Code := match fn.body with | some b => rngAs b k | none => .skip
def rngB (fn : Func) (k : Nat) : Code := match fn.body with | some b => rngBs b k | none => .skip
/-- The record of a loop over an iterator. -/
def lgR (env : Env) (ps : List Tmp) (a b : Code) : LoopG := ⟨env, ps, a, b, .ready, none⟩
def roundK (id : Nat) [Post : Bx (DV → GS → Prop)] (x : Exit) (env : Env) (σ : GS) : Prop := ground id Post.val x env σ
def asgK (P : Program) (id : Nat) [b : Bx GCode] [Post : Bx (DV → GS → Prop)] (x : Exit) (env : Env) (σ : GS) : Prop :=
  x = .normal ∧ ∃ lg1, σ[id]? = some (.loop lg1) ∧ lg1.st = .ready ∧ @exB P b env (σ.set id (.loop { lg1 with st := .busy })) ⟨@roundK id Post⟩
/-- A round, when the loop's record is known. -/
theorem round_of {P : Program} (hm : P.follows .mixedOrders = true) {σ : GS} {id : Nat} {env : Env} {ps : List Tmp} {a b : Code} {args : List DV} {Post : DV → GS → Prop} {ga gb : GCode} (hs : σ[id]? = some (.loop (lgR env ps a b))) (ha : comp P a = some ga) (hb : comp P b = some gb) (hlen : args.length = ps.length)
    (h : @exB P ⟨ga⟩ (putAll env ps args) σ ⟨@asgK P id ⟨gb⟩ ⟨Post⟩⟩) : GRound P id args σ Post :=
  ground_of hm hs rfl ha hb hlen (gexec_mono h fun x e s ⟨h1, lg1, h2, h3, h4⟩ => ⟨h1, lg1, h2, h3, h4⟩)
theorem roundK_normal {id : Nat} {Post : Bx (DV → GS → Prop)} {env e0 : Env} {ps : List Tmp} {a b : Code} {σ : GS} (h : σ[id]? = some (.loop ⟨e0, ps, a, b, .busy, none⟩)) (k : Post.val (.bool true) (σ.set id (.loop (lgR e0 ps a b)))) : @roundK id Post .normal env σ := ⟨_, h, k⟩
end Go.Gh
namespace Go.Gh
set_option linter.unusedVariables false
set_option linter.unusedSimpArgs false
/-- Has a graph an edge? -/
def AigP.has (g : AigP) (e : Int) : Bool := decide (0 ≤ e) && decide (e < 2 * g.nodes)
def AigP.all (g : AigP) (l : List Int) : Bool := g.may && l.all g.has
theorem AigP.may_ins {g : AigP} (h : g.may = true) : insOk 0 g.ins = true := by simp only [AigP.may, Bool.and_eq_true] at h; exact h.1.1
theorem insOk_vars : ∀ {l : List Int} {s : Int}, insOk s l = true → ∀ x ∈ l, isVar x = true
  | [], s, _, x, hx => by cases hx
  | y :: l, s, h, x, hx => by
    simp only [insOk, Bool.and_eq_true, decide_eq_true_eq] at h
    rcases List.mem_cons.1 hx with rfl | hx
    · exact h.1.1
    · exact insOk_vars h.2 x hx
theorem andsOk_get : ∀ {l : List (Int × Int)} {m : Int} {i : Nat} {p : Int × Int}, andsOk m l = true → l[i]? = some p → 0 ≤ p.1 ∧ 0 ≤ p.2 ∧ p.1 < m + 2 * i ∧ p.2 < m + 2 * i
  | [], m, i, p, _, h => by simp at h
  | q :: l, m, 0, p, ho, h => by
    simp only [andsOk, Bool.and_eq_true, decide_eq_true_eq] at ho
    simp at h; subst h; omega
  | q :: l, m, i + 1, p, ho, h => by
    simp only [andsOk, Bool.and_eq_true, decide_eq_true_eq] at ho
    have := andsOk_get ho.2 (by simpa using h)
    omega
/-- A maker's graph. -/
structure Mk where
  ins : List Int
  ands : List (Int × Int)
  full : Bool
def Mk.n (m : Mk) : Nat := 1 + m.ins.length + m.ands.length
/-- The first And that is a pair; -1: there is none. -/
def Mk.at (m : Mk) (a b : Int) : Int := idxF (fun p => decide (p = (a, b))) 0 m.ands
/-- The conjunction of two edges. -/
def Mk.conj (m : Mk) (a b : Int) : Int × Mk :=
  if min a b = 0 ∨ notE (min a b) = max a b then (0, m)
  else if min a b = 1 ∨ min a b = max a b then (max a b, m)
  else if 0 ≤ m.at (min a b) (max a b) then (2 * (1 + m.ins.length + m.at (min a b) (max a b)), m)
  else if 200000 ≤ m.n then (0, { m with full := true })
  else (2 * m.n, { m with ands := m.ands ++ [(min a b, max a b)] })
/-- The image of an edge, from those of nodes. -/
def imgE (to : List Int) (e : Int) : Int := turnE (to.getD (e / 2).toNat 0) e
def cpStep (s : List Int × Mk) (x : (Int × Int) × Bool) : List Int × Mk :=
  if x.2 = true then (s.1 ++ [(s.2.conj (imgE s.1 x.1.1) (imgE s.1 x.1.2)).1], (s.2.conj (imgE s.1 x.1.1) (imgE s.1 x.1.2)).2) else (s.1 ++ [0], s.2)
/-- A copy of what is reached: the images of nodes, and the maker. -/
def Mk.copy (m : Mk) (g : AigP) (r : List Bool) (to : List Int) : List Int × Mk := (g.ands.zip (r.drop (1 + g.ins.length))).foldl cpStep (to, m)
def rcStep (base : Nat) (ands : List (Int × Int)) (m : List Bool) (i : Nat) : List Bool :=
  if m.getD (base + i) false = true then (m.set ((ands.getD i (0, 0)).1 / 2).toNat true).set ((ands.getD i (0, 0)).2 / 2).toNat true else m
def rcDown (base : Nat) (ands : List (Int × Int)) : Nat → List Bool → List Bool
  | 0, m => m
  | i + 1, m => rcDown base ands i (rcStep base ands m i)
def marks (m : List Bool) (l : List Int) : List Bool := l.foldl (fun m e => m.set (e / 2).toNat true) m
/-- Which nodes edges reach. -/
def AigP.reach (g : AigP) (l : List Int) : List Bool := rcDown (1 + g.ins.length) g.ands g.ands.length (marks (List.replicate g.nodes false) l)
/-- The edge of an input; -1: it is none. -/
def edgeOf (ins : List Int) (v : Int) : Int := if 0 ≤ idxF (fun x => decide (x = v)) 0 ins then 2 * (idxF (fun x => decide (x = v)) 0 ins + 1) else -1
/-- A graph, edges in it, and the error. -/
structure GOut where
  g : AigP
  l : List Int
  e : Int
end Go.Gh
namespace Go.Gh
set_option linter.unusedVariables false
set_option linter.unusedSimpArgs false
theorem idxF_cases {α : Type} (p : α → Bool) : ∀ (l : List α) (k : Nat), (idxF p k l = -1 ∧ ∀ x ∈ l, p x = false) ∨ ∃ i x, idxF p k l = ((k + i : Nat) : Int) ∧ l[i]? = some x ∧ p x = true ∧ ∀ j y, j < i → l[j]? = some y → p y = false
  | [], k => .inl ⟨rfl, fun x hx => by cases hx⟩
  | x :: l, k => by
    by_cases h : p x = true
    · exact .inr ⟨0, x, by simp [idxF, h], rfl, h, fun j y hj => absurd hj (Nat.not_lt_zero _)⟩
    · rcases idxF_cases p l (k + 1) with ⟨h1, h2⟩ | ⟨i, y, h1, h2, h3, h4⟩
      · refine .inl ⟨by simp [idxF, h, h1], fun z hz => ?_⟩
        rcases List.mem_cons.1 hz with rfl | hz
        · simpa using h
        · exact h2 z hz
      · refine .inr ⟨i + 1, y, ?_, by simpa using h2, h3, fun j z hj hz => ?_⟩
        · simp only [idxF, if_neg h, h1]; congr 1; omega
        · cases j with
          | zero => simp at hz; subst hz; simpa using h
          | succ j => exact h4 j z (by omega) (by simpa using hz)
theorem idxF_lt {α : Type} {p : α → Bool} {l : List α} {k : Nat} : idxF p k l < k + l.length := by
  rcases idxF_cases p l k with ⟨h1, _⟩ | ⟨i, x, h1, h2, _⟩
  · omega
  · have := (List.getElem?_eq_some_iff.1 h2).1; omega
theorem Mk.at_lt (m : Mk) (a b : Int) : m.at a b < m.ands.length := by have := idxF_lt (p := fun p => decide (p = (a, b))) (l := m.ands) (k := 0); unfold Mk.at; omega
@[simp] theorem Mk.conj_ins (m : Mk) (a b : Int) : (m.conj a b).2.ins = m.ins := by
  unfold Mk.conj
  split; · rfl
  split; · rfl
  split; · rfl
  split <;> rfl
theorem Mk.conj_ands (m : Mk) (a b : Int) : (m.conj a b).2.ands = m.ands ∨ ((m.conj a b).2.ands = m.ands ++ [(min a b, max a b)] ∧ (m.conj a b).2.full = m.full) := by
  unfold Mk.conj
  split; · exact .inl rfl
  split; · exact .inl rfl
  split; · exact .inl rfl
  split
  · exact .inl rfl
  · exact .inr ⟨rfl, rfl⟩
theorem Mk.conj_n (m : Mk) (a b : Int) : m.n ≤ (m.conj a b).2.n ∧ (m.conj a b).2.n ≤ m.n + 1 := by
  unfold Mk.n
  rw [Mk.conj_ins]
  rcases m.conj_ands a b with h | ⟨h, _⟩ <;> rw [h] <;> simp <;> omega
theorem Mk.conj_full (m : Mk) (a b : Int) (h : m.n < 200000) : (m.conj a b).2.full = m.full := by
  unfold Mk.conj
  split; · rfl
  split; · rfl
  split; · rfl
  split
  · omega
  · rfl
theorem Mk.conj_range {m : Mk} {a b : Int} (a0 : 0 ≤ a) (a1 : a < 2 * m.n) (b0 : 0 ≤ b) (b1 : b < 2 * m.n) : 0 ≤ (m.conj a b).1 ∧ (m.conj a b).1 < 2 * (m.conj a b).2.n := by
  have hp : 0 < m.n := by unfold Mk.n; omega
  have h1 := (m.conj_n a b).1
  have h2 := m.at_lt (min a b) (max a b)
  have h3 : (m.n : Int) = 1 + m.ins.length + m.ands.length := by unfold Mk.n; omega
  suffices (0 ≤ (m.conj a b).1 ∧ (m.conj a b).1 < 2 * (m.n : Int)) ∨ ((m.conj a b).1 = 2 * (m.n : Int) ∧ (m.conj a b).2.n = m.n + 1) by omega
  unfold Mk.conj
  split; · simp; omega
  split; · simp; omega
  split; · simp; omega
  split
  · simp; omega
  · right; simp [Mk.n]; omega
/-- The graph so far is valid. -/
def Mk.ok (m : Mk) : Prop := andsOk (2 * (1 + m.ins.length)) m.ands = true
theorem andsOk_append : ∀ {l l' : List (Int × Int)} {m : Int}, andsOk m (l ++ l') = (andsOk m l && andsOk (m + 2 * l.length) l')
  | [], l', m => by simp [andsOk]
  | p :: l, l', m => by
    have e : m + 2 + 2 * (l.length : Int) = m + 2 * ((p :: l).length : Int) := by simp only [List.length_cons]; omega
    simp only [List.cons_append, andsOk, andsOk_append (l := l), Bool.and_assoc, e]
theorem Mk.conj_ok {m : Mk} {a b : Int} (a0 : 0 ≤ a) (a1 : a < 2 * m.n) (b0 : 0 ≤ b) (b1 : b < 2 * m.n) (h : m.ok) : (m.conj a b).2.ok := by
  unfold Mk.ok at h ⊢
  rw [Mk.conj_ins]
  have h3 : (m.n : Int) = 1 + m.ins.length + m.ands.length := by unfold Mk.n; omega
  rcases m.conj_ands a b with h1 | ⟨h1, _⟩
  · rw [h1]; exact h
  · rw [h1, andsOk_append, h]
    simp [andsOk]
    omega
@[simp] theorem cpStep_ins (s : List Int × Mk) (x : (Int × Int) × Bool) : (cpStep s x).2.ins = s.2.ins := by unfold cpStep; split <;> simp
@[simp] theorem cpFold_ins : ∀ (xs : List ((Int × Int) × Bool)) (s : List Int × Mk), (xs.foldl cpStep s).2.ins = s.2.ins
  | [], s => rfl
  | x :: xs, s => by rw [List.foldl_cons, cpFold_ins xs, cpStep_ins]
/-- The images of reached nodes agree. -/
structure Agr (r : List Bool) (T T' : List Int) : Prop where
  len : T.length = T'.length
  get : ∀ j, r.getD j false = true → T[j]? = T'[j]?
theorem Agr.push {r : List Bool} {T T' : List Int} (h : Agr r T T') (x : Int) : Agr r (T ++ [x]) (T' ++ [x]) := by
  refine ⟨by simp [h.len], fun j hj => ?_⟩
  by_cases hl : j < T.length
  · rw [List.getElem?_append_left hl, List.getElem?_append_left (by rw [← h.len]; exact hl), h.get j hj]
  · rw [List.getElem?_append_right (by omega), List.getElem?_append_right (by rw [← h.len]; omega), h.len]
theorem getD_set {m : List Bool} {a j : Nat} (h : m.getD j false = true) : (m.set a true).getD j false = true := by
  rw [List.getD_eq_getElem?_getD, List.getElem?_set] at *
  split
  · split <;> simp_all
  · exact h
theorem getD_set_self {m : List Bool} {a : Nat} (h : a < m.length) : (m.set a true).getD a false = true := by
  rw [List.getD_eq_getElem?_getD, List.getElem?_set_self h]; rfl
theorem rcStep_len (base : Nat) (ands : List (Int × Int)) (m : List Bool) (i : Nat) : (rcStep base ands m i).length = m.length := by unfold rcStep; split <;> simp
theorem rcStep_mono {base : Nat} {ands : List (Int × Int)} {m : List Bool} {i j : Nat} (h : m.getD j false = true) : (rcStep base ands m i).getD j false = true := by
  unfold rcStep; split
  · exact getD_set (getD_set h)
  · exact h
theorem rcDown_mono {base : Nat} {ands : List (Int × Int)} {j : Nat} : ∀ {k : Nat} {m : List Bool}, m.getD j false = true → (rcDown base ands k m).getD j false = true
  | 0, m, h => h
  | k + 1, m, h => rcDown_mono (k := k) (rcStep_mono h)
theorem marks_len : ∀ (l : List Int) (m : List Bool), (marks m l).length = m.length
  | [], m => rfl
  | e :: l, m => by unfold marks; rw [List.foldl_cons]; exact (marks_len l _).trans (by simp)
theorem rcStep_hi {base : Nat} {ands : List (Int × Int)} {i j : Nat} {m : List Bool} (h1 : ((ands.getD i (0, 0)).1 / 2).toNat < j) (h2 : ((ands.getD i (0, 0)).2 / 2).toNat < j) : (rcStep base ands m i)[j]? = m[j]? := by
  unfold rcStep; split
  · rw [List.getElem?_set_ne (by omega), List.getElem?_set_ne (by omega)]
  · rfl
section
variable {base : Nat} {ands : List (Int × Int)} (hok : ∀ i p, ands[i]? = some p → (p.1 / 2).toNat < base + i ∧ (p.2 / 2).toNat < base + i)
include hok
theorem getD_ok {i : Nat} (hb : 0 < base + i) : ((ands.getD i (0, 0)).1 / 2).toNat < base + i ∧ ((ands.getD i (0, 0)).2 / 2).toNat < base + i := by
  rw [List.getD_eq_getElem?_getD]
  cases h : ands[i]? with
  | none => simp; omega
  | some p => exact hok i p h
theorem rcDown_hi (hb : 0 < base) {j : Nat} : ∀ {k : Nat} {m : List Bool}, base + k ≤ j → (rcDown base ands k m)[j]? = m[j]?
  | 0, m, _ => rfl
  | k + 1, m, h => by
    have := getD_ok hok (i := k) (by omega)
    rw [rcDown, rcDown_hi hb (k := k) (by omega), rcStep_hi (by omega) (by omega)]
theorem rcDown_child (hb : 0 < base) : ∀ {k : Nat} {m : List Bool} {i : Nat} {p : Int × Int}, base + ands.length ≤ m.length → i < k → ands[i]? = some p → (rcDown base ands k m).getD (base + i) false = true →
    (rcDown base ands k m).getD (p.1 / 2).toNat false = true ∧ (rcDown base ands k m).getD (p.2 / 2).toNat false = true
  | 0, m, i, p, _, hi, _, _ => absurd hi (Nat.not_lt_zero _)
  | k + 1, m, i, p, hm, hi, hp, h => by
    rw [rcDown] at h ⊢
    rcases Nat.lt_or_ge i k with h' | h'
    · exact rcDown_child hb (by rw [rcStep_len]; exact hm) h' hp h
    · have : i = k := by omega
      subst this
      obtain ⟨c1, c2⟩ := hok i p hp
      have hi' := (List.getElem?_eq_some_iff.1 hp).1
      have hg : ands.getD i (0, 0) = p := by rw [List.getD_eq_getElem?_getD, hp]; rfl
      have h2 : (rcDown base ands i (rcStep base ands m i)).getD (base + i) false = m.getD (base + i) false := by
        rw [List.getD_eq_getElem?_getD, rcDown_hi hok hb (by omega), rcStep_hi (by rw [hg]; omega) (by rw [hg]; omega), ← List.getD_eq_getElem?_getD]
      rw [h2] at h
      have h3 : (rcStep base ands m i).getD (p.1 / 2).toNat false = true ∧ (rcStep base ands m i).getD (p.2 / 2).toNat false = true := by
        unfold rcStep
        rw [if_pos h, hg]
        exact ⟨getD_set (getD_set_self (by omega)), getD_set_self (by simp; omega)⟩
      exact ⟨rcDown_mono h3.1, rcDown_mono h3.2⟩
end
theorem andsOk_node {l : List (Int × Int)} {n : Nat} (h : andsOk (2 * n) l = true) : ∀ i p, l[i]? = some p → (p.1 / 2).toNat < n + i ∧ (p.2 / 2).toNat < n + i := fun i p hp => by
  have := andsOk_get h hp; omega
theorem AigP.may_ands {g : AigP} (h : g.may = true) : andsOk (2 * (1 + g.ins.length : Nat)) g.ands = true := by
  simp only [AigP.may, Bool.and_eq_true] at h
  have := h.2
  rwa [show (2 * (1 + (g.ins.length : Int))) = 2 * ((1 + g.ins.length : Nat) : Int) by omega] at this
theorem AigP.reach_child {g : AigP} {l : List Int} (hm : g.may = true) {i : Nat} {p : Int × Int} (hp : g.ands[i]? = some p) (h : (g.reach l).getD (1 + g.ins.length + i) false = true) :
    (g.reach l).getD (p.1 / 2).toNat false = true ∧ (g.reach l).getD (p.2 / 2).toNat false = true :=
  rcDown_child (andsOk_node (AigP.may_ands hm)) (by omega) (by rw [marks_len]; simp [AigP.nodes]) (List.getElem?_eq_some_iff.1 hp).1 hp h
end Go.Gh
namespace Go.Gh
set_option linter.unusedVariables false
set_option linter.unusedSimpArgs false
/-- Without repetitions. -/
def compactI : List Int → List Int
  | [] => []
  | [x] => [x]
  | x :: y :: l => if x = y then compactI (y :: l) else x :: compactI (y :: l)
theorem mem_compactI (z : Int) : ∀ (l : List Int), z ∈ compactI l ↔ z ∈ l
  | [] => by simp [compactI]
  | [x] => by simp [compactI]
  | x :: y :: l => by
    have ih := mem_compactI z (y :: l)
    rw [compactI]
    split
    · subst_vars; rw [ih]; simp
    · rw [List.mem_cons, ih]; simp
end Go.Gh
namespace Go.Gh
set_option linter.unusedVariables false
set_option linter.unusedSimpArgs false
/-- A literal's variable. -/
abbrev ab (x : Int) : Int := if x < 0 then -x else x
def insA : List Int → Int → Option (List Int)
  | [], x => some [x]
  | y :: l, x => if ab y < ab x then (insA l x).map (y :: ·) else if ab y = ab x then (if y = x then some (y :: l) else none) else some (x :: y :: l)
/-- The clause of literals: in the order of variables, each once; none, where there are a literal and its negative. -/
def normL (l : List Int) : Option (List Int) := l.foldl (fun o x => o.bind fun r => insA r x) (some [])
abbrev AscA (l : List Int) : Prop := l.Pairwise fun x y => ab x < ab y
theorem insA_some : ∀ {r : List Int} {x : Int} {r' : List Int}, AscA r → insA r x = some r' → AscA r' ∧ ∀ z, z ∈ r' ↔ z ∈ r ∨ z = x
  | [], x, r', _, h => by cases h; simp
  | y :: l, x, r', ha, h => by
    have h1 := List.pairwise_cons.1 ha
    rw [insA] at h
    split at h
    · rename_i hlt
      obtain ⟨m, hm, rfl⟩ := Option.map_eq_some_iff.1 h
      obtain ⟨i1, i2⟩ := insA_some h1.2 hm
      refine ⟨List.pairwise_cons.2 ⟨fun z hz => ?_, i1⟩, fun z => ?_⟩
      · rcases (i2 z).1 hz with hz | rfl
        · exact h1.1 z hz
        · exact hlt
      · rw [List.mem_cons, i2, List.mem_cons, or_assoc]
    · split at h
      · split at h
        · rename_i hxy
          cases h
          subst hxy
          exact ⟨ha, fun z => by simp; rintro rfl; simp⟩
        · cases h
      · rename_i h2 h3
        cases h
        refine ⟨List.pairwise_cons.2 ⟨fun z hz => ?_, ha⟩, fun z => by rw [List.mem_cons]; exact or_comm⟩
        rcases List.mem_cons.1 hz with rfl | hz
        · omega
        · have := h1.1 z hz; omega
theorem insA_none : ∀ {r : List Int} {x : Int}, insA r x = none → ∃ y ∈ r, ab y = ab x ∧ y ≠ x
  | [], x, h => by cases h
  | y :: l, x, h => by
    rw [insA] at h
    split at h
    · rw [Option.map_eq_none_iff] at h
      obtain ⟨z, hz, a, b⟩ := insA_none h
      exact ⟨z, by simp [hz], a, b⟩
    · split at h
      · split at h
        · cases h
        · rename_i h2 h3 h4
          exact ⟨y, by simp, h3, h4⟩
      · cases h
theorem normL_none_fold (l : List Int) : l.foldl (fun o x => Option.bind o fun r => insA r x) none = none := by
  induction l with
  | nil => rfl
  | cons x l ih => exact ih
theorem normF_some : ∀ {l r : List Int} {r' : List Int}, AscA r → l.foldl (fun o x => Option.bind o fun r => insA r x) (some r) = some r' → AscA r' ∧ ∀ z, z ∈ r' ↔ z ∈ r ∨ z ∈ l
  | [], r, r', ha, h => by cases h; exact ⟨ha, by simp⟩
  | x :: l, r, r', ha, h => by
    rw [List.foldl_cons, Option.bind_some] at h
    cases hi : insA r x with
    | none => rw [hi, normL_none_fold] at h; cases h
    | some m =>
      rw [hi] at h
      obtain ⟨i1, i2⟩ := insA_some ha hi
      obtain ⟨j1, j2⟩ := normF_some i1 h
      refine ⟨j1, fun z => ?_⟩
      rw [j2, i2, List.mem_cons, or_assoc]
theorem normF_none : ∀ {l r : List Int}, AscA r → l.foldl (fun o x => Option.bind o fun r => insA r x) (some r) = none → ∃ x y, (x ∈ r ∨ x ∈ l) ∧ y ∈ l ∧ ab x = ab y ∧ x ≠ y
  | [], r, ha, h => by cases h
  | x :: l, r, ha, h => by
    rw [List.foldl_cons, Option.bind_some] at h
    cases hi : insA r x with
    | none =>
      obtain ⟨y, hy, a, b⟩ := insA_none hi
      exact ⟨y, x, .inl hy, by simp, a, b⟩
    | some m =>
      rw [hi] at h
      obtain ⟨i1, i2⟩ := insA_some ha hi
      obtain ⟨u, v, hu, hv, a, b⟩ := normF_none i1 h
      refine ⟨u, v, ?_, by simp [hv], a, b⟩
      rcases hu with hu | hu
      · rcases (i2 u).1 hu with hu | rfl
        · exact .inl hu
        · exact .inr (by simp)
      · exact .inr (by simp [hu])
theorem ascA_ext : ∀ {a b : List Int}, AscA a → AscA b → (∀ x, x ∈ a ↔ x ∈ b) → a = b
  | [], [], _, _, _ => rfl
  | [], y :: b, _, _, h => by have := (h y).2 (by simp); simp at this
  | x :: a, [], _, _, h => by have := (h x).1 (by simp); simp at this
  | x :: a, y :: b, ha, hb, h => by
    have h1 := List.pairwise_cons.1 ha
    have h2 := List.pairwise_cons.1 hb
    have e : x = y := by
      rcases List.mem_cons.1 ((h x).1 (by simp)) with e | e
      · exact e
      · rcases List.mem_cons.1 ((h y).2 (by simp)) with e' | e'
        · exact e'.symm
        · have := h2.1 x e; have := h1.1 y e'; omega
    subst e
    congr 1
    refine ascA_ext h1.2 h2.2 fun z => ⟨fun hz => ?_, fun hz => ?_⟩
    · rcases List.mem_cons.1 ((h z).1 (by simp [hz])) with rfl | e
      · have := h1.1 z hz; omega
      · exact e
    · rcases List.mem_cons.1 ((h z).2 (by simp [hz])) with rfl | e
      · have := h2.1 z hz; omega
      · exact e
/-- Is a list in the order of variables, and are these above a number? -/
def nrmA : Int → List Int → Bool
  | _, [] => true
  | last, x :: l => if ab x ≤ last then false else nrmA (ab x) l
theorem nrmA_iff : ∀ {l : List Int} {last : Int}, nrmA last l = true ↔ AscA l ∧ ∀ x ∈ l, last < ab x
  | [], last => by simp [nrmA]
  | x :: l, last => by
    rw [nrmA]
    split
    · rename_i h
      constructor
      · intro h; cases h
      · rintro ⟨_, h'⟩; have := h' x (by simp); omega
    · rename_i h
      rw [nrmA_iff]
      constructor
      · rintro ⟨a, b⟩
        refine ⟨List.pairwise_cons.2 ⟨b, a⟩, fun z hz => ?_⟩
        rcases List.mem_cons.1 hz with rfl | hz
        · omega
        · have := b z hz; omega
      · rintro ⟨a, b⟩
        have h1 := List.pairwise_cons.1 a
        exact ⟨h1.2, h1.1⟩
theorem compact_asc : ∀ {l : List Int}, (l.Pairwise fun x y => ab x ≤ ab y ∧ (ab x = ab y → x = y)) → AscA (compactI l)
  | [], _ => .nil
  | [x], _ => by simp [compactI, AscA]
  | x :: y :: l, h => by
    have h1 := List.pairwise_cons.1 h
    have ih := compact_asc h1.2
    rw [compactI]
    split
    · exact ih
    · rename_i hne
      refine List.pairwise_cons.2 ⟨fun z hz => ?_, ih⟩
      rw [mem_compactI] at hz
      have hxy := h1.1 y (by simp)
      have hlt : ab x < ab y := by
        by_cases e : ab x = ab y
        · exact absurd (hxy.2 e) hne
        · omega
      rcases List.mem_cons.1 hz with rfl | hz
      · exact hlt
      · have := (List.pairwise_cons.1 h1.2).1 z hz; omega
/-- Sorted, made compact and asked: the clause. -/
theorem norm_prog {l ys : List Int} (hp : l.Perm ys) (hs : ys.Pairwise fun x y => ab x ≤ ab y) (h0 : ∀ x ∈ l, x ≠ 0) : normL l = if nrmA 0 (compactI ys) then some (compactI ys) else none := by
  have hm : ∀ z, z ∈ compactI ys ↔ z ∈ l := fun z => by rw [mem_compactI, hp.mem_iff]
  unfold normL
  cases hf : l.foldl (fun o x => Option.bind o fun r => insA r x) (some []) with
  | some r =>
    obtain ⟨a, b⟩ := normF_some .nil hf
    have hone : ∀ x y, x ∈ l → y ∈ l → ab x = ab y → x = y := fun x y hx hy e => by
      have hx' := (b x).2 (.inr hx)
      have hy' := (b y).2 (.inr hy)
      obtain ⟨i, hi⟩ := List.mem_iff_getElem?.1 hx'
      obtain ⟨k, hk⟩ := List.mem_iff_getElem?.1 hy'
      obtain ⟨hil, rfl⟩ := List.getElem?_eq_some_iff.1 hi
      obtain ⟨hkl, rfl⟩ := List.getElem?_eq_some_iff.1 hk
      rcases Nat.lt_trichotomy i k with e' | e' | e'
      · have := (List.pairwise_iff_getElem.1 a) i k hil hkl e'; omega
      · subst e'; rfl
      · have := (List.pairwise_iff_getElem.1 a) k i hkl hil e'; omega
    have hca : AscA (compactI ys) := by
      refine compact_asc (List.Pairwise.imp_of_mem (fun {x y} hx hy h => ⟨h, fun e => hone x y (hp.mem_iff.2 hx) (hp.mem_iff.2 hy) e⟩) hs)
    have hn : nrmA 0 (compactI ys) = true := nrmA_iff.2 ⟨hca, fun x hx => by
      have := h0 x ((hm x).1 hx)
      unfold ab; split <;> omega⟩
    rw [hn, if_pos rfl]
    congr 1
    exact ascA_ext a hca fun z => by rw [b, hm]; simp
  | none =>
    obtain ⟨x, y, hx, hy, e, hne⟩ := normF_none .nil hf
    have hx : x ∈ l := by simpa using hx
    split
    · rename_i hn
      have ha := (nrmA_iff.1 hn).1
      exfalso
      apply hne
      have hx' := (hm x).2 hx
      have hy' := (hm y).2 hy
      obtain ⟨i, hi⟩ := List.mem_iff_getElem?.1 hx'
      obtain ⟨k, hk⟩ := List.mem_iff_getElem?.1 hy'
      obtain ⟨hil, rfl⟩ := List.getElem?_eq_some_iff.1 hi
      obtain ⟨hkl, rfl⟩ := List.getElem?_eq_some_iff.1 hk
      rcases Nat.lt_trichotomy i k with e' | e' | e'
      · have := (List.pairwise_iff_getElem.1 ha) i k hil hkl e'; omega
      · subst e'; rfl
      · have := (List.pairwise_iff_getElem.1 ha) k i hkl hil e'; omega
    · rfl
/-- Insertion where a list is cut. -/
theorem insA_cut : ∀ {A B : List Int} {x : Int}, (∀ y ∈ A, ab y < ab x) → (∀ y ∈ B, ab x < ab y) → insA (A ++ B) x = some (A ++ x :: B)
  | [], [], x, _, _ => rfl
  | [], y :: B, x, _, hB => by
    have := hB y (by simp)
    rw [List.nil_append, insA, if_neg (by omega), if_neg (by omega)]
    rfl
  | a :: A, B, x, hA, hB => by
    rw [List.cons_append, insA, if_pos (hA a (by simp)), insA_cut (fun y hy => hA y (by simp [hy])) hB]
    rfl
theorem insA_same : ∀ {A B : List Int} {y x : Int}, (∀ z ∈ A, ab z < ab x) → ab y = ab x → insA (A ++ y :: B) x = if y = x then some (A ++ y :: B) else none
  | [], B, y, x, _, h => by rw [List.nil_append, insA, if_neg (by omega), if_pos h]
  | a :: A, B, y, x, hA, h => by
    rw [List.cons_append, insA, if_pos (hA a (by simp)), insA_same (fun z hz => hA z (by simp [hz])) h]
    split <;> rfl
end Go.Gh
namespace Go.Gh
set_option linter.unusedVariables false
set_option linter.unusedSimpArgs false
theorem compact_len : ∀ l : List Int, (compactI l).length ≤ l.length
  | [] => by simp [compactI]
  | [x] => by simp [compactI]
  | x :: y :: l => by
    have := compact_len (y :: l)
    simp only [compactI]
    split <;> simp at * <;> omega
def leA (x y : Int) : Bool := decide (ab x ≤ ab y)
theorem normL_perm {l m : List Int} (hp : l.Perm m) (h0 : ∀ x ∈ l, x ≠ 0) : normL l = normL m := by
  have hs : (l.mergeSort leA).Pairwise fun x y => ab x ≤ ab y := by
    have := List.pairwise_mergeSort (le := leA) (fun a b c h1 h2 => by simp only [leA, decide_eq_true_eq] at *; omega) (fun a b => by simp only [leA, Bool.or_eq_true, decide_eq_true_eq]; omega) l
    exact this.imp fun h => by simpa [leA] using h
  have hq := (List.mergeSort_perm l leA).symm
  rw [norm_prog hq hs h0, norm_prog (hp.symm.trans hq) hs fun x hx => h0 x (hp.mem_iff.2 hx)]
theorem normL_some {l r : List Int} (h : normL l = some r) : AscA r ∧ ∀ z, z ∈ r ↔ z ∈ l := by
  obtain ⟨a, b⟩ := normF_some .nil h
  exact ⟨a, fun z => by rw [b]; simp⟩
/-- What is put for a gate, in the order of the code. -/
def rawP (x k : Int) (i : List Int) (pl mi : Bool) : List (List Int) :=
  if k = 1 then (if pl then i.map fun l => [-x, l] else []) ++ (if mi then [(i.map fun l => -l) ++ [x]] else [])
  else if k = 2 then (if pl then [i ++ [-x]] else []) ++ (if mi then i.map fun l => [x, -l] else [])
  else if k = 3 then (if pl then [[-x, i.getD 0 0, i.getD 1 0], [-x, -i.getD 0 0, -i.getD 1 0]] else []) ++ (if mi then [[x, -i.getD 0 0, i.getD 1 0], [x, i.getD 0 0, -i.getD 1 0]] else [])
  else (if pl then [[-x, -i.getD 0 0, i.getD 1 0], [-x, i.getD 0 0, i.getD 2 0]] else []) ++ (if mi then [[x, -i.getD 0 0, -i.getD 1 0], [x, i.getD 0 0, -i.getD 2 0]] else [])
/-- The clauses of a gate. -/
def gcl (x k : Int) (i : List Int) (pl mi : Bool) : List (List Int) := (rawP x k i pl mi).filterMap normL
theorem gcl_wideA {x : Int} {i : List Int} (hx : x ≠ 0) (hi : ∀ l ∈ i, l ≠ 0) : normL (x :: i.map fun l => -l) = normL ((i.map fun l => -l) ++ [x]) :=
  normL_perm (by simpa using (List.perm_append_comm (l₁ := [x]) (l₂ := i.map fun l => -l))) fun y hy => by
    rcases List.mem_cons.1 hy with rfl | hy
    · exact hx
    · obtain ⟨l, hl, rfl⟩ := List.mem_map.1 hy
      have := hi l hl; omega
theorem gcl_wideO {x : Int} {i : List Int} (hx : x ≠ 0) (hi : ∀ l ∈ i, l ≠ 0) : normL (-x :: i) = normL (i ++ [-x]) :=
  normL_perm (by simpa using (List.perm_append_comm (l₁ := [-x]) (l₂ := i))) fun y hy => by
    rcases List.mem_cons.1 hy with rfl | hy
    · omega
    · exact hi y hy
/-- Has a gate a kind and as many literals as that has? -/
def shpG (k : Int) (n : Nat) : Bool := decide (k = 1) || decide (k = 2) || (decide (k = 3) && decide (n = 2)) || (decide (k = 4) && decide (n = 3))
theorem gabs_ab {x : Int} (hb : -9223372036854775808 ≤ x ∧ x < 9223372036854775808) (h : isVar (gabs x) = true) : ab x = gabs x ∧ x ≠ 0 ∧ -65536 ≤ x ∧ x ≤ 65536 := by
  simp only [isVar, Bool.and_eq_true, decide_eq_true_eq] at h
  by_cases hx : x < 0
  · simp only [gabs, ab, if_pos hx] at h ⊢
    by_cases hm : x = -9223372036854775808
    · subst hm; exact absurd h (by decide)
    · rw [wrap_small (by omega) (by omega)] at h ⊢
      omega
  · simp only [gabs, if_neg hx] at h
    have e1 : gabs x = x := by unfold gabs; rw [if_neg hx]
    have e2 : ab x = x := if_neg hx
    rw [e1, e2]
    refine ⟨rfl, ?_, ?_, ?_⟩ <;> omega
end Go.Gh
namespace Go.Gh
open Go.RowKit
set_option linter.unusedVariables false
set_option linter.unusedSimpArgs false
/-- Blocks, dependencies and clauses that nobody writes. -/
abbrev Blk := Bool × List Int
abbrev Dep := Int × List Int
abbrev eblk (b : Blk) : List DV := [.bool b.1, fints b.2]
abbrev fblks (p : List Blk) : DV := .fsl 2 (p.map eblk)
abbrev edep (d : Dep) : List DV := [.int .i64 d.1, fints d.2]
abbrev fdeps (p : List Dep) : DV := .fsl 2 (p.map edep)
abbrev ecl (c : List Int) : List DV := [fints c]
abbrev fcls (l : List (List Int)) : DV := .fsl 1 (l.map ecl)
@[simp] theorem closed_fblks (p : List Blk) : (fblks p).closed = true := closedss_map fun x _ => by have := closed_fints x.2; simp [DV.closed, closeds] at this ⊢; exact this
@[simp] theorem closed_fdeps (p : List Dep) : (fdeps p).closed = true := closedss_map fun x _ => by have := closed_fints x.2; simp [DV.closed, closeds] at this ⊢; exact this
@[simp] theorem closed_fcls (p : List (List Int)) : (fcls p).closed = true := closedss_map fun x _ => by have := closed_fints x; simp [DV.closed, closeds] at this ⊢; exact this
structure QbfP where
  pre : List Blk
  cls : List (List Int)
structure DqbfP where
  univ : List Int
  exist : List Dep
  cls : List (List Int)
abbrev eqbf (q : QbfP) : List DV := [fblks q.pre, fcls q.cls]
abbrev QbfP.enc (q : QbfP) : DV := .agg (eqbf q)
abbrev edqbf (d : DqbfP) : List DV := [fints d.univ, fdeps d.exist, fcls d.cls]
abbrev DqbfP.enc (d : DqbfP) : DV := .agg (edqbf d)
def ClsSm (l : List (List Int)) : Prop := l.length < 2 ^ 47 ∧ ∀ c ∈ l, c.length < 2 ^ 47
theorem nth_get {α : Type} {l : List α} {i : Nat} {x : α} (h : nth l i = some x) : l[i]? = some x := h
/-- As GCall.pure: what is returned may be any of many. -/
theorem gcall_pures {P : Program} {f : FuncId} {args : List DV} {σ : GS} {Post : DV → GS → Prop} (h : GCall P f args σ fun v σ' => Fr σ.length σ σ' ∧ ∃ r, Rd σ' (fun i => σ.length ≤ i ∨ RO σ' i) v r ∧ r.closed = true ∧ Post r σ) : GCall P f args σ Post := by
  refine ⟨h.1, fun N w0 ρ w rargs hr hv => (h.2 N w0 ρ w rargs hr hv).mono ?_⟩
  rintro e w' ⟨v, rv, ρ', σ', rfl, q1, q2, q3, q4, hf, r, hrd, hc, k⟩
  obtain ⟨ρ1, p1, p2, p3⟩ := q1.frz fun i => decide (σ.length ≤ i)
  have hrd' : Rd (frz (fun i => decide (σ.length ≤ i)) σ') (RO (frz (fun i => decide (σ.length ≤ i)) σ')) v r := by
    refine Rd.mono (fun id ro cs hok hs => ?_) hrd
    by_cases hid : σ.length ≤ id
    · have := frz_row (S := fun i => decide (σ.length ≤ i)) hs (by simpa using hid)
      exact ⟨fun r2 c2 h2 => by rw [this] at h2; cases h2; rfl, true, this⟩
    · have := frz_off (S := fun i => decide (σ.length ≤ i)) (σ := σ') (i := id) (by simpa using hid)
      refine ⟨fun r2 c2 h2 => ?_, ro, by rw [this]; exact hs⟩
      rw [this] at h2
      rcases hok with h' | h'
      · exact absurd h' hid
      · exact h' r2 c2 h2
  have hvr := Rd.sound p3 hrd' (VR.mono p2 _ _ q4)
  have hff : Fr σ.length σ (frz (fun i => decide (σ.length ≤ i)) σ') := ⟨by rw [frz_len]; exact hf.len, fun i hi => by rw [frz_off (by simpa using hi)]; exact hf.get i hi⟩
  have hkeep : ∀ id, id < σ.length → ρ1 id = ρ id := fun id hid => by
    rw [← q2.grow.keep id hid]; show ρ1.f id = ρ'.f id; rw [p1]
  have hcut := Rel.cut p3 hr hff hkeep
  refine ⟨r, rv, ρ1.cut σ.length, σ, rfl, hcut, ⟨⟨fun id hid => by rw [Ren.cut_lt hid]; exact hkeep id hid, fun b o v hv => p2.fz _ _ _ (q2.grow.fz _ _ _ hv)⟩, fun id L hL => q2.new id L (by rw [← p1]; exact (Ren.cut_some hL).2), q2.size, q2.frame, q2.loops⟩, Nat.le_refl _, VR.closed (ρ := ρ1) (ρ' := ρ1.cut σ.length) (fun _ _ _ h => h) _ _ hc hvr, k⟩
/-- How many blocks and numbers. -/
def lensB (p : List Blk) : Nat := p.length + (p.map fun b => b.2.length).sum
def lensD (p : List Dep) : Nat := p.length + (p.map fun b => b.2.length).sum
def lensC (l : List (List Int)) : Nat := l.length + (l.map fun c => c.length).sum
def QbfP.sz (q : QbfP) : Nat := lensB q.pre + lensC q.cls
def DqbfP.sz (d : DqbfP) : Nat := d.univ.length + lensD d.exist + lensC d.cls
theorem mem_sum {α : Type} {f : α → Nat} : ∀ {l : List α} {x : α}, x ∈ l → f x ≤ (l.map f).sum
  | y :: l, x, h => by
    rcases List.mem_cons.1 h with rfl | h
    · simp
    · have := mem_sum (f := f) h; simp; omega
end Go.Gh
namespace Go.Gh
open Go.RowKit
set_option linter.unusedVariables false
set_option linter.unusedSimpArgs false
section
variable {κ : Type}
/-- A map in the heap, its stamps named. -/
structure MpA (ek : κ → DV) (σ : GS) (id : Nat) (l : List (κ × DV)) (st : List Nat × Nat) : Prop where
  nodup : (l.map (·.1)).Nodup
  ok : StOk st l.length
  at_ : σ[id]? = some (.mp (kenc ek l) st)
theorem MpO.a {ek : κ → DV} {σ : GS} {id : Nat} {l : List (κ × DV)} (h : MpO ek σ id l) : ∃ st, MpA ek σ id l st := by
  obtain ⟨h0, st, h1, h2⟩ := h; exact ⟨st, h0, h1, h2⟩
theorem MpA.o {ek : κ → DV} {σ : GS} {id : Nat} {l : List (κ × DV)} {st : List Nat × Nat} (h : MpA ek σ id l st) : MpO ek σ id l := ⟨h.nodup, st, h.ok, h.at_⟩
theorem MpA.fit {ek : κ → DV} {σ σ' : GS} {id : Nat} {l : List (κ × DV)} {st : List Nat × Nat} (h : MpA ek σ id l st) (hf : σ'[id]? = σ[id]?) : MpA ek σ' id l st := ⟨h.nodup, h.ok, hf.trans h.at_⟩
theorem MpA.dom {ek : κ → DV} {σ : GS} {id : Nat} {l : List (κ × DV)} {st : List Nat × Nat} (h : MpA ek σ id l st) : id < σ.length := get_dom h.at_
end
section
variable {κ : Type} [DecidableEq κ]
theorem kset_at {k : κ} {v u : DV} : ∀ {l : List (κ × DV)} {i : Nat}, (l.map (·.1)).Nodup → l[i]? = some (k, u) → kset k v l = l.set i (k, v)
  | [], i, _, h => by simp at h
  | (a, w) :: l, 0, hn, h => by
    simp at h; obtain ⟨rfl, rfl⟩ := h; simp [kset]
  | (a, w) :: l, i + 1, hn, h => by
    simp only [List.map_cons, List.nodup_cons] at hn
    simp only [List.getElem?_cons_succ] at h
    have hne : ¬ k = a := by rintro rfl; exact hn.1 (List.mem_map.2 ⟨_, List.mem_of_getElem? h, rfl⟩)
    simp only [kset, if_neg hne, kset_at hn.2 h, List.set_cons_succ]
/-- A key's value is written in a loop over the map. -/
theorem MpA.set {kt : KT} {ek : κ → DV} [hE : KeyE kt ek] {σ : GS} {id : Nat} {l : List (κ × DV)} {st : List Nat × Nat} (h : MpA ek σ id l st) {i : Nat} {k : κ} {u : DV} (hi : l[i]? = some (k, u)) (v : DV) :
    gimp (.mset kt) [.map id, ek k, v] σ = some (.tuple [], σ.set id (.mp (kenc ek (l.set i (k, v))) st)) ∧ MpA ek (σ.set id (.mp (kenc ek (l.set i (k, v))) st)) id (l.set i (k, v)) st := by
  have hs := kset_at (v := v) h.nodup hi
  have hkm : k ∈ l.map (·.1) := List.mem_map.2 ⟨_, List.mem_of_getElem? hi, rfl⟩
  have hg := gfind_kget (kt := kt) (ek := ek) k l 0
  have hk : kget k l = some u := kget_nodup h.nodup (List.mem_of_getElem? hi)
  simp only [hk] at hg
  obtain ⟨j, g1, g2, _, _⟩ := hg
  refine ⟨?_, ?_, ?_, by rw [List.getElem?_set_self h.dom]⟩
  · simp only [gimp, hE.fits, h.at_, if_true, g1]
    simp only [Nat.zero_add, g2, hs]
  · rw [← hs]; exact kset_nodup h.nodup
  · simpa using h.ok
end
end Go.Gh
namespace Go.Gh
open Go.RowKit
set_option linter.unusedVariables false
set_option linter.unusedSimpArgs false
set_option maxRecDepth 100000
@[simp] theorem gres_c3 (env : Env) (σ : GS) (t u x : Tmp) (n : Nat) (b : Bool) : gresL env σ [.cell t n b, .tmp u, .tmp x] = (gload (.load n b) [env[t]?.getD (.tuple [])] σ).map fun v => [v, env[u]?.getD (.tuple []), env[x]?.getD (.tuple [])] := by
  simp only [gresL, gres1, garg]
  cases gload (.load n b) [env[t]?.getD (.tuple [])] σ <;> rfl
@[simp] theorem fill_nil (z : List DV) : gfill [] z [] = some z := rfl
@[simp] theorem fill_fsl (z0 z1 : DV) (sz : Nat) (es : List (List DV)) : gfill [(0, 1)] [z0, z1] [.fsl sz es] = some [.fsl sz es, z1] := by simp [gfill, DV.cells, over]
theorem frz_none (σ : GS) : frz (fun _ => false) σ = σ := by
  apply List.ext_getElem?
  intro i
  rw [frz_off rfl]
theorem GCall.reads {P : Program} {f : FuncId} {args args' : List DV} {σ : GS} {Post : DV → GS → Prop} (ha : Rds σ (RO σ) args args') (h : GCall P f args' σ Post) : GCall P f args σ Post := by
  refine GCall.frz (fun _ => false) (args' := args') ?_ ?_
  · rw [frz_none]; exact ha
  · rw [frz_none]; exact h
@[simp] theorem fill_pair (z0 z1 : DV) (k j : IntKind) (a b : Int) : gfill [(0, 1), (1, 1)] [z0, z1] [.int k a, .int j b] = some [.int k a, .int j b] := by simp [gfill, DV.cells, over]
@[simp] theorem ga_b0 (sz : Nat) (z : List DV) : galloc (.bslice sz z 0 []) [] = some (.row false (gzeros z 0), fun id => .slice id 0 0 sz (some 0)) := by simp [galloc, gfill]
theorem fill_flat2 {z0 z1 a b : DV} (ha : a.flat = true) (hb : b.flat = true) : gfill [(0, 1), (1, 1)] [z0, z1] [a, b] = some [a, b] := by simp [gfill, cells_of_flat ha, cells_of_flat hb, over]
@[simp] theorem fill_agg2 (z0 z1 z2 a b : DV) : gfill [(0, 2)] [z0, z1, z2] [.agg [a, b]] = some [a, b, z2] := by simp [gfill, DV.cells, over]
@[simp] theorem ga_box_int (k : IntKind) (x : Int) : galloc .box [.int k x] = some (.row false [.int k x], fun id => .ptr id 0) := rfl
@[simp] theorem ga_box_ptr (i j : Nat) : galloc .box [.ptr i j] = some (.row false [.ptr i j], fun id => .ptr id 0) := rfl
@[simp] theorem ga_box_fsl (sz : Nat) (es : List (List DV)) : galloc .box [.fsl sz es] = some (.row false [.fsl sz es], fun id => .ptr id 0) := rfl
@[simp] theorem ga_b2_int {z : DV} (k : IntKind) (x y : Int) : galloc (.bslice 1 [z] 2 [(0, 1), (1, 1)]) [.int k x, .int k y] = some (.row false [.int k x, .int k y], fun id => .slice id 0 2 1 (some 2)) := rfl
@[simp] theorem ga_b3_int {z : DV} (k : IntKind) (x y w : Int) : galloc (.bslice 1 [z] 3 [(0, 1), (1, 1), (2, 1)]) [.int k x, .int k y, .int k w] = some (.row false [.int k x, .int k y, .int k w], fun id => .slice id 0 3 1 (some 3)) := rfl
@[simp] theorem ptr_nil (id k : Nat) : gbin .eql .ptr (.ptr id k) .nilp = some (.bool false) := rfl
@[simp] theorem nil_nil : gbin .eql .ptr .nilp .nilp = some (.bool true) := rfl
@[simp] theorem gres_c2 (env : Env) (σ : GS) (t u : Tmp) (n : Nat) (b : Bool) : gresL env σ [.cell t n b, .tmp u] = (gload (.load n b) [env[t]?.getD (.tuple [])] σ).map fun v => [v, env[u]?.getD (.tuple [])] := by
  simp only [gresL, gres1, garg]
  cases gload (.load n b) [env[t]?.getD (.tuple [])] σ <;> rfl
@[simp] theorem ga_mmap : galloc .mmap [] = some (.mp [] ([], 0), fun id => .map id) := rfl
@[simp] theorem gres_c1 (env : Env) (σ : GS) (t : Tmp) (n : Nat) (b : Bool) : gresL env σ [.cell t n b] = (gload (.load n b) [env[t]?.getD (.tuple [])] σ).map fun v => [v] := by
  simp only [gresL, gres1, garg]
  cases gload (.load n b) [env[t]?.getD (.tuple [])] σ <;> rfl
@[simp] theorem gp_cap_nils : gpure .cap [.nils] = some (.int .i64 0) := rfl
@[simp] theorem gres_c4 (env : Env) (σ : GS) (t u x z : Tmp) (n : Nat) (b : Bool) : gresL env σ [.cell t n b, .tmp u, .tmp x, .tmp z] = (gload (.load n b) [env[t]?.getD (.tuple [])] σ).map fun v => [v, env[u]?.getD (.tuple []), env[x]?.getD (.tuple []), env[z]?.getD (.tuple [])] := by
  simp only [gresL, gres1, garg]
  cases gload (.load n b) [env[t]?.getD (.tuple [])] σ <;> rfl
@[simp] theorem nth_zero {α : Type} (x : α) (l : List α) : nth (x :: l) 0 = some x := rfl
theorem set_tail {α : Type} (l τ : List α) (k : Nat) (x : α) : (l ++ τ).set (l.length + k) x = l ++ τ.set k x := by rw [List.set_append_right _ _ (by omega)]; simp
theorem rangeB_intro {P : Program} {bf : FuncId} {first caps : List DV} {env : Env} {σ : GS} {c : Bx (List Tmp × Code × Code)} {k : Bx (Exit → Env → GS → Prop)} (h : GCall P bf (first ++ [.yield σ.length] ++ caps) (σ ++ [.loop (lgR env c.val.1 c.val.2.1 c.val.2.2)]) fun _ σ' => grange σ.length env k.val σ') : @rangeB P (.func bf first caps) env σ c k := h
theorem grange_normal {id : Nat} {env e0 : Env} {ps : List Tmp} {a b : Code} {Q : Exit → Env → GS → Prop} {σ : GS} (h : σ[id]? = some (.loop (lgR e0 ps a b))) (k : Q .normal env (σ.set id (.loop ⟨e0, ps, a, b, .exhausted, none⟩))) : grange id env Q σ := ⟨_, h, by simp [lgR], k⟩
@[simp] theorem asgK_normal (P : Program) (id : Nat) (b : Bx GCode) (Post : Bx (DV → GS → Prop)) (env : Env) (σ : GS) : @asgK P id b Post .normal env σ = ∃ lg1, σ[id]? = some (.loop lg1) ∧ lg1.st = .ready ∧ @exB P b env (σ.set id (.loop { lg1 with st := .busy })) ⟨@roundK id Post⟩ := by simp [asgK]
theorem mslice_bools {n : Nat} (h : n < 2 ^ 40) (k j : IntKind) : galloc (.mslice 1 1 [.bool false]) [.int k (n : Int), .int j (n : Int)] = some (.row false (bools (List.replicate n false)), fun id => .slice id 0 n 1 (some n)) := by
  simp only [galloc]
  rw [if_pos (by omega)]
  simp [gzeros, bools]
theorem mslice_ints {n : Nat} (h : n < 2 ^ 40) (k j : IntKind) : galloc (.mslice 1 8 [.int .i64 0]) [.int k (n : Int), .int j (n : Int)] = some (.row false (ints (List.replicate n 0)), fun id => .slice id 0 n 1 (some n)) := by
  simp only [galloc]
  rw [if_pos (by omega)]
  simp [gzeros, ints]
@[simp] theorem gres_cc (env : Env) (σ : GS) (t u : Tmp) (n m : Nat) (b c : Bool) : gresL env σ [.cell t n b, .cell u m c] = (gload (.load n b) [env[t]?.getD (.tuple [])] σ).bind fun v => (gload (.load m c) [env[u]?.getD (.tuple [])] σ).map fun w => [v, w] := by
  simp only [gresL, gres1, garg]
  cases gload (.load n b) [env[t]?.getD (.tuple [])] σ <;> cases gload (.load m c) [env[u]?.getD (.tuple [])] σ <;> rfl
end Go.Gh
namespace Go.Gh
open Go.RowKit Go.Sort
set_option linter.unusedVariables false
set_option linter.unusedSimpArgs false

theorem grow_list {N : Nat} {w0 : World} {ρ : Ren} {σ : GS} : ∀ (l : List Obj) (w : World), Rel N w0 ρ σ w → Rel N w0 ρ σ (grow w l.toArray) ∧ ∀ n, Ext n ρ w ρ (grow w l.toArray)
  | [], w, h => by
    rw [show grow w ([] : List Obj).toArray = w from grow_empty w]; exact ⟨h, fun n => Ext.refl _ _ _⟩
  | o :: l, w, h => by
    have e : grow w (o :: l).toArray = grow (w.alloc o) l.toArray := by rw [alloc_eq_grow, grow_grow]; simp
    rw [e]
    obtain ⟨a, b⟩ := grow_list l (w.alloc o) (h.junk o)
    exact ⟨a, fun n => (Ext.junk (n := n) o).trans (b n) (Nat.le_refl _)⟩

theorem putRow_set {w : World} {blk off : Nat} {d : Array Int} {cur : Array Value} {t : TypeId} (h : w.heap[blk]? = some (.cells cur t (0, 0))) :
    putRow (Value.int .i64) w blk off d = w.setRow blk (putCells (Value.int .i64) off d cur) := by
  unfold putRow mapBlock World.setRow
  congr 1
  apply Array.ext_getElem?
  intro i
  simp only [Array.getElem?_modify]
  by_cases hi : blk = i
  · subst hi; simp [h, onCells]
  · simp [hi]

end Go.Gh
namespace Go.Gh
open Go.RowKit
set_option linter.unusedVariables false
set_option linter.unusedSimpArgs false
/-- The numbers in blocks, one behind the other. -/
def flatB (p : List Blk) : List Int := p.flatMap (·.2)
@[simp] theorem flatB_nil : flatB [] = [] := rfl
@[simp] theorem flatB_cons (b : Blk) (p : List Blk) : flatB (b :: p) = b.2 ++ flatB p := rfl
theorem flatB_append (p q : List Blk) : flatB (p ++ q) = flatB p ++ flatB q := by simp [flatB]
theorem flatB_len (p : List Blk) : (flatB p).length = (p.map fun b => b.2.length).sum := by
  induction p with
  | nil => rfl
  | cons b p ih => simp [ih]
theorem lensB_flat (p : List Blk) : lensB p = p.length + (flatB p).length := by rw [flatB_len]; rfl
theorem lensB_mem {b : Blk} {p : List Blk} (h : b ∈ p) : b.2.length ≤ lensB p := by
  have := mem_sum (f := fun b : Blk => b.2.length) h; unfold lensB; omega
/-- Variables, none of which occurs twice, nor among those before. -/
def singleS (seen : List Int) : List Int → Bool
  | [] => true
  | x :: l => isVar x && !seen.contains x && singleS (seen ++ [x]) l
/-- Blocks that are not empty, neighbours of different quantifiers. -/
def altB (prev : Option Bool) : List Blk → Bool
  | [] => true
  | b :: p => !b.2.isEmpty && decide (prev ≠ some b.1) && altB (some b.1) p
def mayB (p : List Blk) : Bool := altB none p && (decide ((flatB p).length ≤ 1024) && singleS [] (flatB p))
/-- Where a number stands first. -/
def findO (k : Nat) : List Blk → Int → Option (Nat × Bool)
  | [], v => none
  | b :: p, v => if b.2.contains v then some (k, b.1) else findO (k + 1) p v
/-- The numbers in blocks, with the index of the block. -/
def prs (k : Nat) : List Blk → List (Nat × Int)
  | [] => []
  | b :: p => b.2.map (fun v => (k, v)) ++ prs (k + 1) p
theorem prs_len (p : List Blk) : ∀ k, (prs k p).length = (flatB p).length := by
  induction p with
  | nil => intro k; rfl
  | cons b p ih => intro k; simp [prs, ih]
theorem prs_snd (p : List Blk) : ∀ k, (prs k p).map (·.2) = flatB p := by
  induction p with
  | nil => intro k; rfl
  | cons b p ih => intro k; simp [prs, ih, Function.comp_def]
theorem prs_append (p q : List Blk) : ∀ k, prs k (p ++ q) = prs k p ++ prs (k + p.length) q := by
  induction p with
  | nil => intro k; simp [prs]
  | cons b p ih => intro k; simp [prs, ih, Nat.add_assoc, Nat.add_comm 1]
theorem prs_at {p : List Blk} {i j : Nat} {b : Blk} {v : Int} (h1 : p[i]? = some b) (h2 : b.2[j]? = some v) : (prs 0 p)[(flatB (p.take i)).length + j]? = some (i, v) := by
  have hi := get_dom h1
  have hj := get_dom h2
  have e : p = p.take i ++ b :: p.drop (i + 1) := by rw [← drop_get h1, List.take_append_drop]
  have hl : (p.take i).length = i := by simp; omega
  rw [show prs 0 p = prs 0 (p.take i) ++ (b.2.map (fun v => (i, v)) ++ prs (i + 1) (p.drop (i + 1))) by
    conv => lhs; rw [e, prs_append]
    rw [hl, prs, Nat.zero_add]]
  rw [List.getElem?_append_right (by rw [prs_len]; omega), prs_len, Nat.add_sub_cancel_left, List.getElem?_append_left (by simpa using hj), List.getElem?_map, h2]
  rfl
theorem flatB_take {p : List Blk} {i : Nat} {b : Blk} (h : p[i]? = some b) : flatB (p.take (i + 1)) = flatB (p.take i) ++ b.2 := by rw [take_get h, flatB_append]; simp
theorem prs_mem {p : List Blk} : ∀ {k : Nat} {x : Nat × Int}, x ∈ prs k p → ∃ b, k ≤ x.1 ∧ p[x.1 - k]? = some b ∧ x.2 ∈ b.2 := by
  induction p with
  | nil => intro k x h; cases h
  | cons b p ih =>
    intro k x h
    rcases List.mem_append.1 h with h | h
    · obtain ⟨v, hv, rfl⟩ := List.mem_map.1 h
      exact ⟨b, Nat.le_refl _, by simp, hv⟩
    · obtain ⟨c, h1, h2, h3⟩ := ih h
      refine ⟨c, by omega, ?_, h3⟩
      rw [show x.1 - k = (x.1 - (k + 1)) + 1 by omega]
      simpa using h2
/-- A place: the block and its quantifier. -/
def placeV (x : Nat × Bool) : DV := .agg [.int .i64 x.1, .bool x.2]
/-- A map that keeps what is first. -/
def plStep (f : Nat → DV) (E : List (Int × DV)) (x : Nat × Int) : List (Int × DV) := if (kget x.2 E).isSome then E else E ++ [(x.2, f x.1)]
def plE (f : Nat → DV) (l : List (Nat × Int)) : List (Int × DV) := l.foldl (plStep f) []
theorem kget_snoc (k v : Int) (u : DV) : ∀ E : List (Int × DV), kget k (E ++ [(v, u)]) = match kget k E with | some w => some w | none => if k = v then some u else none
  | [] => by simp [kget]
  | (a, w) :: E => by
    have ih := kget_snoc k v u E
    simp only [List.cons_append, kget]
    by_cases h : k = a
    · simp [h]
    · simp only [if_neg h]; exact ih
theorem plE_get (f : Nat → DV) (v : Int) (l : List (Nat × Int)) : ∀ E, kget v (l.foldl (plStep f) E) = match kget v E with | some w => some w | none => (l.find? fun x => x.2 == v).map fun x => f x.1 := by
  induction l with
  | nil => intro E; cases h : kget v E <;> simp [h]
  | cons x l ih =>
    intro E
    rw [List.foldl_cons, ih]
    unfold plStep
    by_cases h : (kget x.2 E).isSome = true
    · rw [if_pos h]
      cases h1 : kget v E with
      | some w => rfl
      | none =>
        have : (x.2 == v) = false := by
          cases hb : x.2 == v with
          | false => rfl
          | true => rw [eq_of_beq hb, h1] at h; cases h
        simp [List.find?_cons, this]
    · rw [if_neg h, kget_snoc]
      cases h1 : kget v E with
      | some w => rfl
      | none =>
        by_cases h2 : v = x.2
        · subst h2; simp
        · have : (x.2 == v) = false := by simpa using fun e => h2 e.symm
          simp [h2, List.find?_cons, this]
theorem findO_prs (f : Nat → DV) (v : Int) : ∀ (p : List Blk) (k : Nat), (∀ (j : Nat) b, p[j]? = some b → f (k + j) = placeV (k + j, b.1)) → ((prs k p).find? fun x => x.2 == v).map (fun x => f x.1) = (findO k p v).map placeV
  | [], k, _ => rfl
  | b :: p, k, h => by
    rw [prs, List.find?_append, findO]
    by_cases hc : b.2.contains v = true
    · rw [if_pos hc]
      have : (b.2.map fun v => (k, v)).find? (fun x => x.2 == v) = some (k, v) := by
        rw [List.find?_map]
        have hm : v ∈ b.2 := by simpa using hc
        cases hf : b.2.find? ((fun x : Nat × Int => x.2 == v) ∘ fun v => (k, v)) with
        | none => have := List.find?_eq_none.1 hf v hm; simp at this
        | some u => have := List.find?_some hf; simp at this; simp [this]
      rw [this]
      have := h 0 b rfl
      simpa using this
    · rw [if_neg hc]
      have : (b.2.map fun v => (k, v)).find? (fun x => x.2 == v) = none := by
        rw [List.find?_eq_none]
        rintro ⟨a, u⟩ hx
        obtain ⟨w, hw, e⟩ := List.mem_map.1 hx
        cases e
        simp only [beq_iff_eq]
        rintro rfl
        exact hc (by simpa using hw)
      rw [this, Option.none_or]
      refine findO_prs f v p (k + 1) fun j c hj => ?_
      have := h (j + 1) c (by simpa using hj)
      rw [show k + 1 + j = k + (j + 1) by omega]; exact this
/-- What the map of places says. -/
def PlaceE (p : List Blk) (E : List (Int × DV)) : Prop := ∀ v, kget v E = (findO 0 p v).map placeV
/-- What abs makes of a literal: -2^63 stays. -/
def absW (x : Int) : Int := max x (IntKind.i64.wrap (-x))
end Go.Gh
namespace Go.Gh
open Go.RowKit
set_option linter.unusedVariables false
set_option linter.unusedSimpArgs false
theorem absW_small {x : Int} (h : -9223372036854775808 < x ∧ x < 9223372036854775808) : absW x = if x < 0 then -x else x := by
  unfold absW
  have : IntKind.i64.wrap (-x) = -x := wrap_small (by omega) (by omega)
  rw [this]; split <;> omega
theorem singleS_var : ∀ {l seen : List Int}, singleS seen l = true → ∀ x ∈ l, isVar x = true
  | [], _, _, x, h => by cases h
  | y :: l, seen, h, x, hx => by
    rw [singleS, Bool.and_eq_true, Bool.and_eq_true] at h
    rcases List.mem_cons.1 hx with rfl | hx
    · exact h.1.1
    · exact singleS_var h.2 x hx
theorem mayB_parts {p : List Blk} (h : mayB p = true) : altB none p = true ∧ (flatB p).length ≤ 1024 ∧ singleS [] (flatB p) = true := by
  unfold mayB at h
  simp only [Bool.and_eq_true, decide_eq_true_eq] at h
  exact ⟨h.1, h.2.1, h.2.2⟩
/-- Literals that ascend by their variables, none of them 0. -/
def litOk (x : Int) : Bool := decide (x ≠ 0) && decide (-65536 ≤ x) && decide (x ≤ 65536)
def nrmG (g : Int → Bool) (last : Int) : List Int → Bool
  | [] => true
  | x :: l => litOk x && decide (last < absW x) && g (absW x) && nrmG g (absW x) l
def nrmS (last : Int) (l : List Int) : Bool := nrmG (fun _ => true) last l
theorem nrmG_eq (g : Int → Bool) : ∀ (l : List Int) (last : Int), nrmG g last l = (nrmS last l && l.all fun x => g (absW x))
  | [], last => rfl
  | x :: l, last => by
    unfold nrmS
    rw [nrmG, nrmG, nrmG_eq g l, List.all_cons]
    unfold nrmS
    cases litOk x <;> cases decide (last < absW x) <;> cases g (absW x) <;> cases nrmG (fun _ => true) (absW x) l <;> simp
def sumL (l : List (List Int)) : Nat := (l.map List.length).sum
def cnfB (l : List (List Int)) : Bool := decide (l.length ≤ 20000) && l.all (nrmS 0) && decide (sumL l ≤ 200000)
def cnfG (g : Int → Bool) (l : List (List Int)) : Bool := decide (l.length ≤ 20000) && l.all (nrmG g 0) && decide (sumL l ≤ 200000)
theorem cnfG_eq (g : Int → Bool) (l : List (List Int)) : cnfG g l = (cnfB l && l.all fun c => c.all fun x => g (absW x)) := by
  have h : l.all (nrmG g 0) = (l.all (nrmS 0) && l.all fun c => c.all fun x => g (absW x)) := by
    induction l with
    | nil => rfl
    | cons c l ih =>
      rw [List.all_cons, List.all_cons, List.all_cons, ih, nrmG_eq]
      cases nrmS 0 c <;> cases (c.all fun x => g (absW x)) <;> cases l.all (nrmS 0) <;> simp
  unfold cnfG cnfB
  rw [h]
  cases decide (l.length ≤ 20000) <;> cases l.all (nrmS 0) <;> cases (l.all fun c => c.all fun x => g (absW x)) <;> simp
theorem sumL_lens (l : List (List Int)) : lensC l = l.length + sumL l := rfl
theorem sumL_push {l : List (List Int)} {i : Nat} {c : List Int} (h : l[i]? = some c) : sumL (l.take (i + 1)) = sumL (l.take i) + c.length := by
  unfold sumL; rw [take_get h, List.map_append, List.sum_append]; simp
theorem sumL_take (l : List (List Int)) (k : Nat) : sumL (l.take k) ≤ sumL l := by
  have : sumL l = sumL (l.take k) + sumL (l.drop k) := by unfold sumL; rw [← List.sum_append, ← List.map_append, List.take_append_drop]
  omega
theorem lensC_mem {c : List Int} {l : List (List Int)} (h : c ∈ l) : c.length ≤ lensC l := by
  have := mem_sum (f := fun c : List Int => c.length) h; unfold lensC; omega
end Go.Gh
