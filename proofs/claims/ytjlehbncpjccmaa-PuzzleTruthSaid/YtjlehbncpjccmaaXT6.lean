/-
  Proved: the reference's game over the net of a puzzle has the answer of the table of winning places.
  Part 6 of 7. Conditions: none. A verified frame that runs compiled texts over a ghost heap, the contracts of the functions that the statement reaches, and the plain law.
-/
import Derived.Test.YtjlehbncpjccmaaXT5
namespace Go.Gh
open Go.RowKit Go.Proofs
set_option linter.unusedVariables false
set_option linter.unusedSimpArgs false
set_option maxRecDepth 20000
set_option maxHeartbeats 8000000
theorem before_1_ok {s : List Bool} {x : Int} {mine : Bool} {id1 id2 : Nat} {ro : Bool} {c : List DV} {σ : GS} {Post : DV → GS → Prop} (h1 : σ[id1]? = some (.row false (bools s))) (hs : s.length = 16) (h2 : gload (.load 1 false) [.ptr id2 0] σ = some (.bool mine)) (hx : 0 ≤ x ∧ x < 16)
    (h : Post (.bool (s.getD x.toNat false == mine)) σ) : GCall Try.prog F_puzzle_board_before_1 [.int .i64 x, .ptr id1 0, .ptr id2 0] σ Post := by
  refine gc_puzzle_board_before_1 ?_
  obtain ⟨y, hy⟩ := get_lt (xs := s) (i := x.toNat) (by omega)
  have e1 : gload (.load 1 false) [.ptr id1 x.toNat] σ = some (.bool y) := ld_bools h1 hy
  simp [G_puzzle_board_before_1, genv0, List.replicate, hx.1, hx.2, e1, h2]
  simpa [List.getD, hy] using h
def winB (s : List Bool) (x : Plc) : Bool := decide (0 < x.to.length) && ((x.to.any fun w => s.getD w.toNat false == x.mine) == x.mine)
def beforeS (s : List Bool) (out : List Bool) (p : Plc × Nat) : List Bool := if winB s p.1 then out.set p.2 true else out
/-- The places that win with one move more. -/
def beforeB (z : Puz) (s : List Bool) : List Bool := z.places.zipIdx.foldl (beforeS s) (goalsB z.goals)
theorem beforeS_len (s : List Bool) : ∀ (l : List (Plc × Nat)) (o : List Bool), (l.foldl (beforeS s) o).length = o.length := by
  intro l; induction l with
  | nil => intro o; rfl
  | cons p l ih => intro o; rw [List.foldl_cons, ih]; unfold beforeS; split <;> simp
theorem beforeB_len (z : Puz) (s : List Bool) : (beforeB z s).length = 16 := by unfold beforeB; rw [beforeS_len, goalsB_len]
theorem zipIdx_nth {α : Type} {l : List α} {i : Nat} {x : α} (h : l[i]? = some x) : l.zipIdx[i]? = some (x, i) := by simp [h]
theorem board_before_ok {z : Puz} {W : Nat} {s : List Bool} {σ : GS} {Post : DV → GS → Prop} (hfi : Fine z) (hs : s.length = 16) (hgl : z.goals.length < 2 ^ 60) (h : Post (.agg (bools (beforeB z s))) σ) : GCall Try.prog F_puzzle_board_before [.agg (epuz z ++ [.int .i64 (W : Int)]), .agg (bools s)] σ Post := by
  have hn := hfi.n16
  have hgr : ∀ g ∈ z.goals, 0 ≤ g ∧ g < 16 := fun g hg => by have := hfi.goals g hg; omega
  refine GCall.say (r := .agg (bools (beforeB z s))) ?_ (closeds_bools _) h
  refine gc_puzzle_board_before ?_
  simp [G_puzzle_board_before, genv0, List.replicate]
  refine board_goals_ok (W := W) hgr hgl ?_
  have hgl16 := goalsB_len z.goals
  have hall : (bools (goalsB z.goals)).all DV.flat = true := by simp [bools]
  have hz := st_zero_agg (n := 16) (τ := []) (cs := bools (goalsB z.goals)) (zs := bools (List.replicate 16 false)) (by simp [hgl16]) (by simp) hall
  simp [List.replicate] at hz
  simp [hz]
  refine gfor z.places.length (fun i e σ' => (∃ τ, σ' = σ ++ .row false (epuz z ++ [.int .i64 (W : Int)]) :: .row false (bools s) :: .row false (bools (List.replicate 16 false)) :: .row false (bools ((z.places.zipIdx.take i).foldl (beforeS s) (goalsB z.goals))) :: τ) ∧
    e = mkEnv 38 [(3, .ptr (σ.length + 1) 0), (4, .ptr (σ.length + 2) 0), (5, .ptr (σ.length + 3) 0), (13, fplcs z.places), (14, .int .i64 z.places.length), (15, .int .i64 i)]) _ ?_ ⟨⟨[], rfl⟩, rfl⟩ ?_
  · simp [mkEnv, List.replicate]
  rintro i _ _ hi ⟨⟨τ, rfl⟩, rfl⟩
  obtain ⟨out, hout⟩ : ∃ out, (z.places.zipIdx.take i).foldl (beforeS s) (goalsB z.goals) = out := ⟨_, rfl⟩
  have hol : out.length = 16 := by rw [← hout, beforeS_len, goalsB_len]
  simp [mkEnv, List.replicate, hout]
  by_cases hlt : i < z.places.length
  · obtain ⟨x, hx⟩ := nth_lt hlt
    have hx' : z.places[i]? = some x := hx
    have hstep : (z.places.zipIdx.take (i + 1)).foldl (beforeS s) (goalsB z.goals) = beforeS s out (x, i) := by rw [fold_take (zipIdx_nth hx'), hout]
    have hto4 := hfi.to4 x (List.mem_of_getElem? hx')
    have htos := hfi.tos x (List.mem_of_getElem? hx')
    have hset : (bools out).set i (.bool true) = bools (out.set i true) := by simp [bools, List.map_set]
    have hz2 : ∀ τ' : GS, gimp (.store 1) [.ptr 0 i, .bool true] (.row false (bools out) :: τ') = some (.tuple [], .row false (bools (out.set i true)) :: τ') := fun τ' => by
      rw [st_zero (by simp [hol]; omega) rfl, hset]
    by_cases h0 : 0 < x.to.length
    · simp [hlt, hx, h0, hn]
      refine contains_func_ok (pre := []) (p := fun w => s.getD w.toNat false == x.mine) (by omega) (fun w hw K hK => before_1_ok (ro := false) (c := []) (by simp) hs (by simp) (by have := htos w hw; omega) hK) ?_
      simp
      by_cases hm : ((x.to.any fun w => s.getD w.toNat false == x.mine) == x.mine) = true
      · have hb : beforeS s out (x, i) = if true then out.set i true else out := by
          have : winB s x = true := by simp only [winB, h0, hm]; rfl
          simp only [beforeS, this]
        simp only [List.getD_eq_getElem?_getD] at hm
        simp only [hm]
        simp [hlt, hn, show (i : Int) < 16 by omega, hz2, wrap_suc (show i < _ by omega)]
        exact forK_go _ hlt (by simp [mkEnv, List.replicate]) ⟨⟨_, by rw [hstep, hb, if_pos rfl, ← hset]; rfl⟩, rfl⟩
      · have hb : beforeS s out (x, i) = if false then out.set i true else out := by
          have hm' : ((x.to.any fun w => s.getD w.toNat false == x.mine) == x.mine) = false := by simpa using hm
          have : winB s x = false := by simp only [winB, h0, hm']; rfl
          simp only [beforeS, this]
        simp only [Bool.not_eq_true, List.getD_eq_getElem?_getD] at hm
        simp only [hm]
        simp [wrap_suc (show i < _ by omega)]
        exact forK_go _ hlt (by simp [mkEnv, List.replicate]) ⟨⟨_, by rw [hstep, hb, if_neg (by simp)]; rfl⟩, rfl⟩
    · have hb : beforeS s out (x, i) = if false then out.set i true else out := by
        have : winB s x = false := by simp [winB]; omega
        simp only [beforeS, this]
      simp [hlt, hx, h0, wrap_suc (show i < _ by omega)]
      exact forK_go _ hlt (by simp [mkEnv, List.replicate]) ⟨⟨_, by rw [hstep, hb, if_neg (by simp)]; rfl⟩, rfl⟩
  · have : i = z.places.length := by omega
    subst this
    have hfin : out = beforeB z s := by rw [← hout, List.take_of_length_le (by simp)]; rfl
    have hall2 : (bools out).all DV.flat = true := by simp [bools]
    have hz3 : ∀ τ' : GS, gimp (.store 16) [.ptr 0 0, .agg (bools out)] (.row false (bools (List.replicate 16 false)) :: τ') = some (.tuple [], .row false (bools out) :: τ') := fun τ' => st_zero_agg (by simp [hol]) (by simp) hall2
    have htk : (bools out).take 16 = bools out := List.take_of_length_le (by simp [hol])
    simp only [List.replicate, List.map_cons, List.map_nil] at hz3
    simp [hol, htk, hz3]
    rw [hfin]
end Go.Gh
namespace Go.Gh
open Go.RowKit Go.Proofs
set_option linter.unusedVariables false
set_option linter.unusedSimpArgs false
set_option maxRecDepth 20000
set_option maxHeartbeats 8000000
def winsB (z : Puz) : Nat → List Bool
  | 0 => goalsB z.goals
  | k + 1 => beforeB z (winsB z k)
theorem winsB_len (z : Puz) (k : Nat) : (winsB z k).length = 16 := by cases k; exact goalsB_len _; exact beforeB_len _ _
theorem Wins_ok {z : Puz} {T : Nat} {pl go : DV} {σ : GS} {Post : DV → GS → Prop} (hz : PuzV σ pl go z) (hfi : Fine z) (hgl : z.goals.length < 2 ^ 60) (hT : z.moves = T)
    (h : ∀ σ', Fr σ.length σ σ' → Post (.tuple [.bool ((winsB z T).getD z.start.toNat false), .int .i64 0]) σ') : GCall Try.prog F_puzzle_Wins [.agg [pl, .int .i64 z.start, go, .int .i64 z.moves]] σ Post := by
  refine gc_puzzle_Wins ?_
  have hn := hfi.n16
  have hgr : ∀ g ∈ z.goals, 0 ≤ g ∧ g < 16 := fun g hg => by have := hfi.goals g hg; omega
  have hst0 := hfi.st0
  have hst1 : z.start < 16 := by have := hfi.st1; omega
  have hf0 : Fr σ.length σ (σ ++ [GObj.row false [pl, .int .i64 z.start, go, .int .i64 z.moves]]) := Fr.rfl'.app _
  have hb0 := puz_box σ pl (.int .i64 z.start) go (.int .i64 z.moves)
  have hl0 : (σ ++ [GObj.row false [pl, .int .i64 z.start, go, .int .i64 z.moves]]).length = σ.length + 1 := by simp
  simp [G_puzzle_Wins, genv0, List.replicate]
  generalize hσ0 : σ ++ [GObj.row false [pl, .int .i64 z.start, go, .int .i64 z.moves]] = σ0 at *
  refine open_ok (hz.fr hf0) hfi hgl fun σ1 hf1 => ?_
  have hl1 := hf1.len
  have hf01 := hf0.trans (hf1.mono (by omega))
  have hb1 := hf1.at_ hb0
  have hpf := hz.places.flat
  have hgf := hz.goals.flat
  simp [hpf, hgf]
  have hz1 := (hz.fr hf01).fr (Fr.rfl'.app [GObj.row false [pl, .int .i64 z.start, go, .int .i64 z.moves, .int .i64 (widthZ z : Int)]])
  have hcl : closeds [DV.agg (epuz z ++ [.int .i64 (widthZ z : Int)])] = true := by simp
  have hrd : ∀ {σ' : GS}, PuzV σ' pl go z → Rd σ' (fun _ => True) (.agg [pl, .int .i64 z.start, go, .int .i64 z.moves, .int .i64 (widthZ z : Int)]) (.agg (epuz z ++ [.int .i64 (widthZ z : Int)])) := fun hz => .agg (hz.rd.snoc (.same _))
  refine GCall.borrow (args' := [.agg (epuz z ++ [.int .i64 (widthZ z : Int)])]) (r := .agg (bools (goalsB z.goals))) (.cons (hrd hz1) .nil) hcl (scalars_bools _) (board_goals_ok (z := z) (W := widthZ z) hgr hgl rfl) ?_
  have hgl16 := goalsB_len z.goals
  have hall : ∀ l : List Bool, (bools l).all DV.flat = true := fun l => by simp [bools]
  have hzz := fun τ : GS => st_zero_agg (n := 16) (τ := τ) (cs := bools (goalsB z.goals)) (zs := bools (List.replicate 16 false)) (by simp [hgl16]) (by simp) (hall _)
  simp [List.replicate] at hzz
  simp [hzz, ld_app (show σ.length < σ1.length by omega), ld_at hb1, hT]
  refine gfor T (fun i e σ' => (∃ τ, σ' = σ1 ++ .row false [pl, .int .i64 z.start, go, .int .i64 z.moves, .int .i64 (widthZ z : Int)] :: .row false (bools (winsB z i)) :: τ) ∧
    e = mkEnv 29 [(1, .ptr σ.length 0), (4, .ptr σ1.length 0), (6, .ptr (σ1.length + 1) 0), (18, .int .i64 (T : Int)), (19, .int .i64 (i : Int))]) _ ?_ ⟨⟨[], by rw [hT]; rfl⟩, rfl⟩ ?_
  · simp [mkEnv, List.replicate]
  rintro i _ _ hi ⟨⟨τ, rfl⟩, rfl⟩
  have hwl := winsB_len z i
  have htk : (bools (winsB z i)).take 16 = bools (winsB z i) := List.take_of_length_le (by simp [hwl])
  simp [mkEnv, List.replicate]
  by_cases hlt : i < T
  · have hz2 := (hz.fr hf01).fr (Fr.rfl'.app (GObj.row false [pl, .int .i64 z.start, go, .int .i64 z.moves, .int .i64 (widthZ z : Int)] :: .row false (bools (winsB z i)) :: τ))
    simp [hlt, hwl]
    rw [htk]
    refine GCall.borrow (args' := [.agg (epuz z ++ [.int .i64 (widthZ z : Int)]), .agg (bools (winsB z i))]) (r := .agg (bools (beforeB z (winsB z i)))) (.cons (hrd hz2) (.cons (.same _) .nil)) (by simp [closeds_bools]) (scalars_bools _) (board_before_ok (z := z) (W := widthZ z) hfi hwl hgl rfl) ?_
    have hbl := beforeB_len z (winsB z i)
    have hz3 := fun τ : GS => st_zero_agg (n := 16) (τ := τ) (cs := bools (beforeB z (winsB z i))) (zs := bools (winsB z i)) (by simp [hbl]) (by simp [hwl]) (hall _)
    have hi8 : i < 9223372036854775807 := by have := hfi.mv1; omega
    simp [hz3, wrap_suc hi8]
    exact forK_go _ hlt (by simp [mkEnv, List.replicate]) ⟨⟨τ, by rw [hT]; rfl⟩, rfl⟩
  · have : i = T := by omega
    subst this
    obtain ⟨y, hy⟩ := get_lt (xs := winsB z i) (i := z.start.toNat) (by omega)
    have hfin := h (σ1 ++ .row false [pl, .int .i64 z.start, go, .int .i64 z.moves, .int .i64 (widthZ z : Int)] :: .row false (bools (winsB z i)) :: τ) (hf01.app _)
    rw [List.getD_eq_getElem?_getD, hy] at hfin
    simp [ld_app (show σ.length < σ1.length by omega), ld_at hb1, hst0, hst1, hy]
    simpa using hfin
end Go.Gh
namespace Go.Gh
open Go.RowKit Go.Proofs
set_option linter.unusedVariables false
set_option linter.unusedSimpArgs false
set_option maxRecDepth 20000
set_option maxHeartbeats 8000000
theorem Own.sint {n : Nat} {σ : GS} {s : DV} {xs : List Int} (h : Own n 1 eint σ s xs) : SInt σ s xs := by
  rcases h with ⟨rfl, rfl⟩ | ⟨id, cap, rest, h1, rfl, h2, h3⟩
  · exact .inl ⟨.inl rfl, rfl⟩
  · exact Sl.of (f := .int .i64) (pre := []) (fun _ _ => rfl) (by rw [flatMap_one] at h2; simpa using h2) rfl
def exOf (p : List Blk) (x : Int) : Bool := match p.find? (fun b => b.vars.contains x) with | some b => b.ex | none => false
theorem exOf_eq {p : List Blk} {x : Int} : ∀ {i : Nat} {b : Blk}, p[i]? = some b → x ∈ b.vars → (∀ (j : Nat) (c : Blk), j < i → p[j]? = some c → x ∉ c.vars) → exOf p x = b.ex := by
  induction p with
  | nil => intro i b h; simp at h
  | cons c p ih =>
    intro i b h hx hno
    unfold exOf
    cases i with
    | zero =>
      simp at h; subst h
      have : c.vars.contains x = true := List.contains_iff_mem.2 hx
      simp only [List.find?_cons, this]
    | succ i =>
      have hc : c.vars.contains x = false := by
        rw [Bool.eq_false_iff]; intro hc
        exact hno 0 c (by omega) rfl (List.contains_iff_mem.1 hc)
      have := ih (i := i) (b := b) (by simpa using h) hx fun j d hj hd => hno (j + 1) d (by omega) (by simpa using hd)
      unfold exOf at this
      simp only [List.find?_cons, hc]
      exact this
theorem app2 {σ0 : GS} {s : DV} {a : List Int} (v : Int) (ha : SInt σ0 s a) (hl : a.length < 2 ^ 30) : ∃ s2 h2 s3 h3, gimp (.append 1 8) [.slice σ0.length 0 0 1 (some 0), s] (σ0 ++ [GObj.row false [], GObj.row false [.int .i64 v]]) = some (s2, h2) ∧ Fr σ0.length σ0 h2 ∧
    h2[σ0.length + 1]? = some (.row false [.int .i64 v]) ∧ gimp (.append 1 8) [s2, .slice (σ0.length + 1) 0 1 1 (some 1)] h2 = some (s3, h3) ∧ Fr σ0.length σ0 h3 ∧ SInt h3 s3 (a ++ [v]) := by
  have hown : Own σ0.length 1 eint (σ0 ++ [GObj.row false [], GObj.row false [.int .i64 v]]) (.slice σ0.length 0 ([] : List Int).length 1 (some 0)) [] := Own.at_ (Nat.le_refl _) (by simp) (by simp)
  obtain ⟨r1, r2⟩ := (ha.fr (Fr.self [GObj.row false [], GObj.row false [.int .i64 v]])).read
  obtain ⟨s2, h2, q1, q2, q3, q4, q5, q6, _⟩ := hown.append (by_ := 8) (x := s) (ys := a) (fun _ => rfl) (by rw [r1, flatMap_one]) r2 (fun y _ => by simp) (by simp) (by simp; omega) (by decide)
  have hrow : h2[σ0.length + 1]? = some (.row false [.int .i64 v]) := by
    rw [q5 _ (by simp) (fun hh => by obtain ⟨_, _, _, _, e⟩ := hh; simp at e)]; simp
  have hx : SInt h2 (.slice (σ0.length + 1) 0 1 1 (some 1)) [v] := Sl.of (f := .int .i64) (pre := []) (rest := []) (ro := false) (xs := [v]) (id := σ0.length + 1) (off := 0) (cap := some 1) (fun _ _ => rfl) (by simpa using hrow) rfl
  obtain ⟨t1, t2⟩ := hx.read
  simp only [List.nil_append] at q2
  have hlen := q3.len
  obtain ⟨s3, h3, p1, p2, p3, p4, p5, p6, _⟩ := q2.append (by_ := 8) (x := .slice (σ0.length + 1) 0 1 1 (some 1)) (ys := [v]) (fun _ => rfl) t1 t2 (fun y _ => by simp) hlen (by simp; omega) (by decide)
  exact ⟨s2, h2, s3, h3, q1, (Fr.self _).trans q3, hrow, p1, ((Fr.self _).trans q3).trans p3, p2.sint⟩
/-- The value of a net under the variables that are left. -/
def gameB (n : NetP) : List Int → List Int → Bool
  | [], a => mayNet n && normal a && evalNet n a
  | v :: vs, a => if gameB n vs (a ++ [v]) == exOf n.pre v then gameB n vs (a ++ [v]) else gameB n vs (a ++ [-v])
theorem game_ok {n : NetP} {vars : List Int} (hs : NetSm n) (hvl : vars.length < 2 ^ 30) (hmx : n.pre.length < 2 ^ 60) (hm2 : ∀ b ∈ n.pre, b.vars.length < 2 ^ 60) (hv : ∀ x ∈ vars, x ∈ flatVars n.pre ∧ isVar x = true) :
    ∀ (k i : Nat), i + k = vars.length → ∀ {a : List Int} {p g vv s : DV} {σ : GS} {Post : DV → GS → Prop}, NetV σ p g n → SInt σ vv vars → SInt σ s a → a.length = i →
      (∀ σ', Fr σ.length σ σ' → Post (.bool (gameB n (vars.drop i) a)) σ') → GCall Try.prog F_skolemlaw35_game [.agg [p, g, .int .i64 n.out], vv, .int .i64 (i : Int), s] σ Post
  | k, i, hik, a, p, g, vv, s, σ, Post, hn, hvv, ha, hal, h => by
    refine gc_skolemlaw35_game ?_
    simp [G_skolemlaw35_game, genv0, List.replicate, hvv.len]
    cases k with
    | zero =>
      have hi : i = vars.length := by omega
      have hdr : vars.drop i = [] := List.drop_eq_nil_of_le (by omega)
      have hii : (i : Int) = vars.length := by omega
      simp [hi]
      refine eval_ok (hn.fr (Fr.self _)) (ha.fr (Fr.self _)) hs (by omega) fun σ' hf => ?_
      have hh := h σ' ((Fr.self _).trans (hf.mono (by simp)))
      rw [hdr] at hh
      simp only [gameB] at hh
      by_cases hm : (mayNet n && normal a) = true
      · rw [if_pos hm]; rw [hm] at hh
        simpa using hh
      · simp only [Bool.not_eq_true] at hm
        rw [hm] at hh ⊢
        simpa using hh
    | succ k =>
      have hlt : i < vars.length := by omega
      obtain ⟨v, hvi⟩ := get_lt hlt
      obtain ⟨hv1, hv2⟩ := hv v (List.mem_of_getElem? hvi)
      have hvr := hv2
      simp only [isVar, Bool.and_eq_true, decide_eq_true_eq] at hvr
      have hne : ¬ (i : Int) = vars.length := by omega
      have hdr : vars.drop i = v :: vars.drop (i + 1) := drop_get hvi
      have hnb := hn.fr (Fr.self [GObj.row false [p, g, .int .i64 n.out]])
      have hvvb := hvv.fr (Fr.self [GObj.row false [p, g, .int .i64 n.out]])
      have hab := ha.fr (Fr.self [GObj.row false [p, g, .int .i64 n.out]])
      have hb0 : (σ ++ [GObj.row false [p, g, .int .i64 n.out]])[σ.length]? = some (.row false [p, g, .int .i64 n.out]) := by simp
      have hl0 : (σ ++ [GObj.row false [p, g, .int .i64 n.out]]).length = σ.length + 1 := by simp
      have hf0 : Fr σ.length σ (σ ++ [GObj.row false [p, g, .int .i64 n.out]]) := Fr.self _
      generalize hσ0 : σ ++ [GObj.row false [p, g, .int .i64 n.out]] = σ0 at *
      obtain ⟨idv, offv, r1, r2⟩ := hvvb.get (k := .i64) hvi
      have hw : IntKind.i64.wrap (i : Int) = i := wrap_nat (by omega)
      have hw1 : IntKind.i64.wrap ((i : Int) + 1) = ((i + 1 : Nat) : Int) := wrap_suc (by omega)
      have g0 : galloc (.bslice 1 [.int .i64 0] 0 []) [] = some (.row false [], fun id => .slice id 0 0 1 (some 0)) := rfl
      simp [hne, ld_at hb0, r1, r2]
      refine find_ok hnb.pre hmx hm2 hv1 fun ib b hb hxb hno => ?_
      have hex := exOf_eq hb hxb hno
      have r2' := fun os => gload_append r2 os
      simp [g0, r1, r2, r2', ld_agg hb0, ld_app (show σ.length < σ0.length by omega), hw1]
      have key : ∀ (y : Int), (gameB n (vars.drop (i + 1)) (a ++ [y]) = true ∨ gameB n (vars.drop (i + 1)) (a ++ [y]) = false) := fun y => by cases gameB n (vars.drop (i + 1)) (a ++ [y]) <;> simp
      obtain ⟨s2, h2, s3, h3, q1, q2, q3, q4, q5, q6⟩ := app2 v hab (by omega)
      have hb2 := q2.at_ hb0
      have hb3 := q5.at_ hb0
      have hvl2 : gload (.load 1 false) [.ptr idv offv] h2 = some (.int .i64 v) := gload_fr q2 r2
      simp [q1, ld_agg hb2, ld_agg hb0, hvl2, q3, ld_app (show σ.length < σ0.length by omega), r2', q4, ld_agg hb3]
      rw [show (i : Int) + 1 = ((i + 1 : Nat) : Int) by omega]
      have hf3 := hf0.trans (q5.mono (by omega))
      refine game_ok hs hvl hmx hm2 hv k (i + 1) (by omega) (hnb.fr q5) (hvvb.fr q5) q6 (by simp [hal]) fun h4 hf4 => ?_
      have hl3 := q5.len
      have hf04 := hf3.trans (hf4.mono (by omega))
      have hf004 := q5.trans (hf4.mono hl3)
      have hb4 := hf4.at_ hb3
      have hgm : gameB n (vars.drop i) a = if gameB n (vars.drop (i + 1)) (a ++ [v]) == exOf n.pre v then gameB n (vars.drop (i + 1)) (a ++ [v]) else gameB n (vars.drop (i + 1)) (a ++ [-v]) := by rw [hdr]; rfl
      rw [hex] at hgm
      obtain ⟨y1, hy1⟩ : ∃ y1, gameB n (vars.drop (i + 1)) (a ++ [v]) = y1 := ⟨_, rfl⟩
      rw [hy1] at hgm ⊢
      by_cases hyb : (y1 == b.ex) = true
      · rw [if_pos hyb] at hgm
        simp
        simp only [hyb]
        simp
        have := h h4 hf04
        rwa [hgm] at this
      · rw [if_neg hyb] at hgm
        simp only [Bool.not_eq_true] at hyb
        have hl4 := hf4.len
        have hlt4 : σ.length < h4.length := by omega
        have r4 := gload_fr hf004 r2
        have r4' := fun os => gload_append r4 os
        have hwn : IntKind.i64.wrap (-v) = -v := by rw [wrap_small] <;> omega
        have hab4 := hab.fr hf004
        obtain ⟨s5, h5, s6, h6, t1, t2, t3, t4, t5, t6⟩ := app2 (-v) hab4 (by omega)
        have hb5 := t2.at_ hb4
        have hb6 := t5.at_ hb4
        have hvl5 : gload (.load 1 false) [.ptr idv offv] h5 = some (.int .i64 v) := gload_fr t2 r4
        simp
        simp only [hyb]
        simp [g0, r1, r4, r4', ld_agg hb4, ld_app hlt4, hw1, hwn, t1, ld_agg hb5, hvl5, t3, t4, ld_agg hb6]
        rw [show (i : Int) + 1 = ((i + 1 : Nat) : Int) by omega]
        refine game_ok hs hvl hmx hm2 hv k (i + 1) (by omega) ((hnb.fr hf004).fr t5) ((hvvb.fr hf004).fr t5) t6 (by simp [hal]) fun h7 hf7 => ?_
        simp
        have := h h7 ((hf04.trans (t5.mono (by omega))).trans (hf7.mono (by have := t5.len; omega)))
        rwa [hgm] at this
end Go.Gh
namespace Go.Gh
open Go.RowKit Go.Proofs
set_option linter.unusedVariables false
set_option linter.unusedSimpArgs false
set_option maxRecDepth 20000
set_option maxHeartbeats 8000000
theorem vars_preZ {W T : Nat} (hW : W ≤ 2) (hT : T ≤ 8) : ∀ x ∈ flatVars (preZ W T), isVar x = true := by
  have : ∀ W, W < 3 → ∀ T, T < 9 → ∀ x ∈ flatVars (preZ W T), isVar x = true := by decide
  exact this W (by omega) T (by omega)
theorem truth_ok {z : Puz} {pl go : DV} {σ : GS} {Post : DV → GS → Prop} (hz : PuzV σ pl go z) (hsm : PuzSm z) (hg20 : z.goals.length < 2 ^ 60)
    (hlaw : Fine z → ∀ T : Nat, z.moves = T → gameB (netZ z (widthZ z) T) (flatVars (preZ (widthZ z) T)) [] = (winsB z T).getD z.start.toNat false)
    (h : ∀ σ', Post (.bool true) σ') : GCall Try.prog F_skolemlaw35_PuzzleTruth [.agg [pl, .int .i64 z.start, go, .int .i64 z.moves]] σ Post := by
  refine gc_skolemlaw35_PuzzleTruth ?_
  have hb0 := puz_box σ pl (.int .i64 z.start) go (.int .i64 z.moves)
  have hf0 : Fr σ.length σ (σ ++ [GObj.row false [pl, .int .i64 z.start, go, .int .i64 z.moves]]) := Fr.rfl'.app _
  simp [G_skolemlaw35_PuzzleTruth, genv0, List.replicate]
  have hl0 : (σ ++ [GObj.row false [pl, .int .i64 z.start, go, .int .i64 z.moves]]).length = σ.length + 1 := by simp
  generalize hσ0 : σ ++ [GObj.row false [pl, .int .i64 z.start, go, .int .i64 z.moves]] = σ0 at *
  refine large_ok (hz.fr hf0) hsm fun lg σ1 hf1 => ?_
  have hl1 := hf1.len
  have hb1 := hf1.at_ hb0
  have hf01 := hf0.trans (hf1.mono (by omega))
  cases lg with
  | true =>
    simp
    refine head_ok ?_
    simp
    exact h _
  | false =>
    simp [ld_agg hb1]
    refine refMay_ok (hz.fr hf01) hsm fun b σ2 hf2 hfi => ?_
    have hl2 := hf2.len
    have hb2 := hf2.at_ hb1
    have hf02 := hf01.trans (hf2.mono (by omega))
    cases b with
    | false =>
      simp
      refine head_ok ?_
      simp
      exact h _
    | true =>
      have hfi := hfi rfl
      obtain ⟨T, hT⟩ : ∃ T : Nat, z.moves = T := ⟨z.moves.toNat, by have := hfi.mv0; omega⟩
      have hT8 : T ≤ 8 := by have := hfi.mv1; omega
      have hgl := goals_len hfi
      have hW2 := (width_fine hfi).1
      simp [ld_agg hb2]
      refine net_ok (hz.fr hf02) hfi (by omega) fun p g σ3 T' hT' hf3 hnv => ?_
      have hTT : T' = T := by omega
      subst hTT
      have hl3 := hf3.len
      have hb3 := hf3.at_ hb2
      have hf03 := hf02.trans (hf3.mono (by omega))
      have hpf := hnv.pre.flat
      have hgf := hnv.gates.flat
      simp [hpf, hgf]
      have e4 : (σ3 ++ [GObj.row false [p, g, .int .i64 (netZ z (widthZ z) T').out]])[σ3.length]? = some (.row false [p, g, .int .i64 (netZ z (widthZ z) T').out]) := by simp
      have hb4 := getE_append (τ := [GObj.row false [p, g, .int .i64 (netZ z (widthZ z) T').out]]) hb3
      have hf04 := hf03.app [GObj.row false [p, g, .int .i64 (netZ z (widthZ z) T').out]]
      have hnv4 := hnv.fr (Fr.rfl'.app [GObj.row false [p, g, .int .i64 (netZ z (widthZ z) T').out]])
      have hl4 : (σ3 ++ [GObj.row false [p, g, .int .i64 (netZ z (widthZ z) T').out]]).length = σ3.length + 1 := by simp
      generalize hσ4 : σ3 ++ [GObj.row false [p, g, .int .i64 (netZ z (widthZ z) T').out]] = σ4 at *
      simp [ld_agg hb4]
      refine Wins_ok (hz.fr hf04) hfi hg20 hT fun σ5 hf5 => ?_
      have hl5 := hf5.len
      have e5 := hf5.at_ e4
      have hf05 := hf04.trans (hf5.mono (by omega))
      have hnv5 := hnv4.fr hf5
      obtain ⟨hsmN, _, _⟩ := net_law (a := []) hfi hT (fun x hx => by cases hx) rfl
      have hn : (netZ z (widthZ z) T').pre = preZ (widthZ z) T' := rfl
      simp [ld_at e5]
      refine flat_ok hnv5.pre (by rw [hn]; exact hsmN.pre) ?_ fun v σ6 hf6 hle6 hv => ?_
      · rw [hn, (flat_preZ hW2 hT8).1]
        simp
        obtain hh | hh | hh : widthZ z = 0 ∨ widthZ z = 1 ∨ widthZ z = 2 := by omega
        all_goals rw [hh]; omega
      rw [hn] at hv
      have e6 := hf6.at_ e5
      have hl6 := hf6.len
      have hf06 := hf05.trans (hf6.mono (by omega))
      have hvs := hv.sl
      have hvl : (flatVars (preZ (widthZ z) T')).length < 2 ^ 30 := by
        rw [(flat_preZ hW2 hT8).1]
        simp
        obtain hh | hh | hh : widthZ z = 0 ∨ widthZ z = 1 ∨ widthZ z = 2 := by omega
        all_goals rw [hh]; omega
      simp [hvs.len]
      by_cases h6 : 6 < (flatVars (preZ (widthZ z) T')).length
      · have h6' : (6 : Int) < (flatVars (preZ (widthZ z) T')).length := by omega
        simp [h6']
        refine head_ok ?_
        simp
        exact h _
      · have h6' : ¬ (6 : Int) < (flatVars (preZ (widthZ z) T')).length := by omega
        simp [h6', ld_agg e6]
        refine game_ok hsmN hvl hsmN.pre hsmN.vars (fun x hx => ⟨hx, vars_preZ hW2 hT8 x hx⟩) (flatVars (preZ (widthZ z) T')).length 0 (by simp) (hnv5.fr hf6) hvs (.inl ⟨.inl rfl, rfl⟩) rfl fun σ7 hf7 => ?_
        rw [List.drop_zero, hlaw hfi T' hT]
        simp
        refine head_ok ?_
        simp
        exact h _
end Go.Gh
namespace Go.Gh
open Go.RowKit
set_option linter.unusedVariables false
set_option linter.unusedSimpArgs false
/-- A block of the game: one for whom, and all for whom not. -/
theorem gameB_block {n : NetP} {W : Nat} (hW : W ≤ 2) {ex : Bool} {l rest : List Int} (hl : l.length = W) (hx : ∀ v ∈ l, exOf n.pre v = ex) (a : List Int) :
    gameB n (l ++ rest) a = if ex then (List.range (2 ^ W)).any (fun c => gameB n rest (a ++ sgn c l W)) else (List.range (2 ^ W)).all (fun c => gameB n rest (a ++ sgn c l W)) := by
  obtain rfl | rfl | rfl : W = 0 ∨ W = 1 ∨ W = 2 := by omega
  · obtain rfl := List.length_eq_zero_iff.1 hl
    simp [sgn]
  · obtain ⟨v, rfl⟩ := List.length_eq_one_iff.1 hl
    have h1 := hx v (by simp)
    have e : List.range (2 ^ 1) = [0, 1] := rfl
    rw [e]
    simp [gameB, h1, sgn]
    cases ex <;> cases gameB n rest (a ++ [v]) <;> simp
  · obtain ⟨v, u, rfl⟩ : ∃ v u, l = [v, u] := by
      match l, hl with
      | [v, u], _ => exact ⟨v, u, rfl⟩
    have h1 := hx v (by simp)
    have h2 := hx u (by simp)
    have e : List.range (2 ^ 2) = [0, 1, 2, 3] := rfl
    rw [e]
    simp [gameB, h1, h2, sgn]
    cases ex <;> cases gameB n rest (a ++ [v, u]) <;> cases gameB n rest (a ++ [v, -u]) <;> cases gameB n rest (a ++ [-v, u]) <;> cases gameB n rest (a ++ [-v, -u]) <;> simp
/-- The variables of the moves that are left. -/
def RV (W : Nat) : Nat → Nat → List Int
  | 0, t => []
  | k + 1, t => choiceV W ((t : Int) + 1) true ++ (choiceV W ((t : Int) + 1) false ++ RV W k (t + 1))
theorem RV_all {W T : Nat} (hW : W ≤ 2) (hT : T ≤ 8) : flatVars (preZ W T) = RV W T 0 := by
  have : ∀ W, W < 3 → ∀ T, T < 9 → flatVars (preZ W T) = RV W T 0 := by decide
  exact this W (by omega) T (by omega)
theorem exOf_preZ {W T t : Nat} (hW : W ≤ 2) (hT : T ≤ 8) (ht : t < T) (m : Bool) : ∀ v ∈ choiceV W ((t : Int) + 1) m, exOf (preZ W T) v = m := by
  have : ∀ W, W < 3 → ∀ T : Nat, T < 9 → ∀ t : Nat, t < T → ∀ m, ∀ v ∈ choiceV W ((t : Int) + 1) m, exOf (preZ W T) v = m := by decide
  exact this W (by omega) T (by omega) t ht m
/-- The literals of one move. -/
def mv (W t cm ct : Nat) : List Int := sgn cm (choiceV W ((t : Int) + 1) true) W ++ sgn ct (choiceV W ((t : Int) + 1) false) W
theorem mv_law {W t cm ct : Nat} (hW : W ≤ 2) (ht : t < 8) (h1 : cm < 2 ^ W) (h2 : ct < 2 ^ W) :
    normR (2 * W * t) (mv W t cm ct) = true ∧ (∀ x ∈ mv W t cm ct, 2 * (W : Int) * t < gabs x ∧ gabs x ≤ 2 * (W : Int) * (t + 1 : Nat) ∧ -1000 < x ∧ x < 1000) ∧ ∀ m, cnum (choiceV W ((t : Int) + 1) m) (mv W t cm ct) W = if m then cm else ct := by
  have k1 : ∀ W : Nat, W < 3 → ∀ t : Nat, t < 8 → ∀ cm, cm < 2 ^ W → ∀ ct, ct < 2 ^ W → normR (2 * W * t) (mv W t cm ct) = true := by decide +kernel
  have k2 : ∀ W : Nat, W < 3 → ∀ t : Nat, t < 8 → ∀ cm, cm < 2 ^ W → ∀ ct, ct < 2 ^ W → (mv W t cm ct).all (fun x => decide (2 * (W : Int) * t < gabs x) && decide (gabs x ≤ 2 * (W : Int) * (t + 1 : Nat)) && decide (-1000 < x) && decide (x < 1000)) = true := by decide +kernel
  have k3 : ∀ W : Nat, W < 3 → ∀ t : Nat, t < 8 → ∀ cm, cm < 2 ^ W → ∀ ct, ct < 2 ^ W → ∀ m, cnum (choiceV W ((t : Int) + 1) m) (mv W t cm ct) W = if m then cm else ct := by decide +kernel
  refine ⟨k1 W (by omega) t ht cm h1 ct h2, fun x hx => ?_, k3 W (by omega) t ht cm h1 ct h2⟩
  have := List.all_eq_true.1 (k2 W (by omega) t ht cm h1 ct h2) x hx
  simp only [Bool.and_eq_true, decide_eq_true_eq] at this
  omega
theorem choice_gt {W t : Nat} (hW : W ≤ 2) (ht : t < 8) (m : Bool) : ∀ y ∈ choiceV W ((t : Int) + 1) m, 2 * (W : Int) * t < y ∧ gabs y = y := by
  have : ∀ W : Nat, W < 3 → ∀ t : Nat, t < 8 → ∀ m, ∀ y ∈ choiceV W ((t : Int) + 1) m, 2 * (W : Int) * t < y ∧ gabs y = y := by decide +kernel
  exact this W (by omega) t ht m
theorem normR_app {M : Int} {b : List Int} (hb : normR M b = true) : ∀ (a : List Int) (s : Int), normR s a = true → (∀ x ∈ a, gabs x ≤ M) → s ≤ M → normR s (a ++ b) = true
  | [], s, h, hx, hs => by
    cases b with
    | nil => rfl
    | cons y b =>
      simp only [List.nil_append, normR, Bool.and_eq_true, decide_eq_true_eq] at hb ⊢
      exact ⟨⟨hb.1.1, by omega⟩, hb.2⟩
  | x :: a, s, h, hx, hs => by
    simp only [List.cons_append, normR, Bool.and_eq_true, decide_eq_true_eq] at h ⊢
    exact ⟨h.1, normR_app hb a _ h.2 (fun y hy => hx y (by simp [hy])) (hx x (by simp))⟩
theorem choiceV_len {W : Nat} {t : Int} {m : Bool} : (choiceV W t m).length = W := by simp [choiceV]
theorem cnum_app {l a b : List Int} (h : ∀ y ∈ l, a.contains y = false) : ∀ k, k ≤ l.length → cnum l (a ++ b) k = cnum l b k
  | 0, _ => rfl
  | k + 1, hk => by
    have hm : l.getD k 0 ∈ l := by
      rw [List.getD_eq_getElem?_getD, List.getElem?_eq_getElem (by omega)]
      exact List.getElem_mem _
    have := h _ hm
    simp only [cnum, cnum_app h k (by omega), List.contains_append, this, Bool.false_or]
theorem cnum_app2 {l a b : List Int} (h : ∀ y ∈ l, b.contains y = false) : ∀ k, k ≤ l.length → cnum l (a ++ b) k = cnum l a k
  | 0, _ => rfl
  | k + 1, hk => by
    have hm : l.getD k 0 ∈ l := by
      rw [List.getD_eq_getElem?_getD, List.getElem?_eq_getElem (by omega)]
      exact List.getElem_mem _
    have := h _ hm
    simp only [cnum, cnum_app2 h k (by omega), List.contains_append, this, Bool.or_false]
/-- What is laid down later does not change where the play stood. -/
theorem posZ_app {z : Puz} {W : Nat} {a b : List Int} : ∀ t : Nat, (∀ i : Nat, i < t → ∀ m, ∀ y ∈ choiceV W ((i : Int) + 1) m, b.contains y = false) → posZ z W (a ++ b) t = posZ z W a t
  | 0, _ => rfl
  | t + 1, h => by
    simp only [posZ, posZ_app t fun i hi => h i (by omega), stepP]
    split
    · rename_i x hx
      rw [cnum_app2 (h t (by omega) x.mine) _ (by rw [choiceV_len]; omega)]
    · rfl
theorem goalsB_get : ∀ (gs : List Int), (∀ g ∈ gs, 0 ≤ g ∧ g < 16) → ∀ v : Nat, v < 16 → (goalsB gs).getD v false = gs.contains (v : Int) := by
  have key : ∀ (gs : List Int) (s : List Bool), s.length = 16 → (∀ g ∈ gs, 0 ≤ g ∧ g < 16) → ∀ v : Nat, v < 16 → (gs.foldl (fun s v => s.set v.toNat true) s).getD v false = (gs.contains (v : Int) || s.getD v false) := by
    intro gs
    induction gs with
    | nil => intro s _ _ v hv; simp
    | cons g gs ih =>
      intro s hs hg v hv
      obtain ⟨g0, g1⟩ := hg g (by simp)
      rw [List.foldl_cons, ih _ (by simpa using hs) (fun x hx => hg x (by simp [hx])) v hv]
      by_cases h : (v : Int) = g
      · subst h
        have : (s.set (((v : Nat) : Int).toNat) true).getD v false = true := by rw [List.getD_eq_getElem?_getD]; simp; rw [List.getElem?_set_self (by omega)]; rfl
        rw [this]; simp
      · have : (s.set g.toNat true).getD v false = s.getD v false := by
          rw [List.getD_eq_getElem?_getD, List.getElem?_set_ne (by omega), ← List.getD_eq_getElem?_getD]
        rw [this, List.contains_cons]
        have : ((v : Int) == g) = false := by simpa using h
        rw [this, Bool.false_or]
  intro gs hg v hv
  unfold goalsB
  rw [key gs _ (by simp) hg v hv]
  have : (List.replicate 16 false).getD v false = false := by rw [List.getD_eq_getElem?_getD, List.getElem?_replicate]; split <;> rfl
  rw [this, Bool.or_false]
theorem beforeS_get {s : List Bool} : ∀ (l : List Plc) (k : Nat) (o : List Bool), o.length = 16 → k + l.length ≤ 16 → ∀ v : Nat, v < k + l.length →
    ((l.zipIdx k).foldl (beforeS s) o).getD v false = if h : k ≤ v then (o.getD v false || winB s (l.getD (v - k) ⟨false, []⟩)) else o.getD v false
  | [], k, o, ho, hk, v, hv => by
    rw [dif_neg (by simp at hv; omega)]; rfl
  | x :: l, k, o, ho, hk, v, hv => by
    simp only [List.length_cons] at hk hv
    rw [List.zipIdx_cons, List.foldl_cons, beforeS_get l (k + 1) _ (by unfold beforeS; split <;> simp [ho]) (by omega) v (by omega)]
    by_cases h1 : k + 1 ≤ v
    · rw [dif_pos h1, dif_pos (by omega)]
      have e1 : (beforeS s o (x, k)).getD v false = o.getD v false := by
        unfold beforeS; split
        · rw [List.getD_eq_getElem?_getD, List.getElem?_set_ne (by simp; omega), ← List.getD_eq_getElem?_getD]
        · rfl
      have e2 : (x :: l).getD (v - k) ⟨false, []⟩ = l.getD (v - (k + 1)) ⟨false, []⟩ := by
        rw [show v - k = (v - (k + 1)) + 1 by omega, List.getD_cons_succ]
      rw [e1, e2]
    · rw [dif_neg h1]
      by_cases h2 : k ≤ v
      · have : v = k := by omega
        subst this
        rw [dif_pos h2]
        unfold beforeS
        simp only [Nat.sub_self, List.getD_cons_zero]
        split
        · rename_i hw
          rw [hw, List.getD_eq_getElem?_getD]; simp; rw [List.getElem?_set_self (by omega)]; rfl
        · rename_i hw
          simp only [Bool.not_eq_true] at hw
          rw [hw, Bool.or_false]
      · rw [dif_neg h2]
        unfold beforeS; split
        · rw [List.getD_eq_getElem?_getD, List.getElem?_set_ne (by simp; omega), ← List.getD_eq_getElem?_getD]
        · rfl
theorem before_get {z : Puz} (hfi : Fine z) (s : List Bool) {v : Nat} {x : Plc} (hx : z.places[v]? = some x) : (beforeB z s).getD v false = (z.goals.contains (v : Int) || winB s x) := by
  have hv : v < z.places.length := get_dom hx
  have hn := hfi.n16
  unfold beforeB
  rw [beforeS_get z.places 0 _ (goalsB_len _) (by omega) v (by omega), dif_pos (Nat.zero_le _), goalsB_get _ (fun g hg => by have := hfi.goals g hg; omega) v (by omega)]
  rw [Nat.sub_zero, List.getD_eq_getElem?_getD, hx]; rfl
/-- The goals that were met. -/
def seenZ (z : Puz) (W : Nat) (a : List Int) (t : Nat) : Bool := ((List.range (t + 1)).map (posZ z W a)).any z.goals.contains
theorem seenZ_succ (z : Puz) (W : Nat) (a : List Int) (t : Nat) : seenZ z W a (t + 1) = (seenZ z W a t || z.goals.contains (posZ z W a (t + 1))) := by
  unfold seenZ
  rw [List.range_succ (n := t + 1), List.map_append, List.any_append]; simp
theorem wins_goal {z : Puz} (hfi : Fine z) : ∀ (k v : Nat) {x : Plc}, z.places[v]? = some x → z.goals.contains (v : Int) = true → (winsB z k).getD v false = true
  | 0, v, x, hx, h => by
    have hv : v < z.places.length := get_dom hx
    have hn := hfi.n16
    simp only [winsB]
    rw [goalsB_get _ (fun g hg => by have := hfi.goals g hg; omega) v (by omega), h]
  | k + 1, v, x, hx, h => by
    simp only [winsB]
    rw [before_get hfi _ hx, h]; rfl
theorem wins_stuck {z : Puz} (hfi : Fine z) : ∀ (k v : Nat) {x : Plc}, z.places[v]? = some x → x.to.length = 0 → (winsB z k).getD v false = z.goals.contains (v : Int)
  | 0, v, x, hx, h => by
    have hv : v < z.places.length := get_dom hx
    have hn := hfi.n16
    simp only [winsB]
    rw [goalsB_get _ (fun g hg => by have := hfi.goals g hg; omega) v (by omega)]
  | k + 1, v, x, hx, h => by
    simp only [winsB]
    rw [before_get hfi _ hx]
    simp [winB, h]
theorem any_mod {W : Nat} {l : List Int} {p : Int → Bool} (h0 : 0 < l.length) (hl : l.length ≤ 2 ^ W) : (List.range (2 ^ W)).any (fun c => p (l.getD (c % l.length) 0)) = l.any p := by
  rw [Bool.eq_iff_iff]
  simp only [List.any_eq_true, List.mem_range]
  constructor
  · rintro ⟨c, hc, h⟩
    refine ⟨_, ?_, h⟩
    have := Nat.mod_lt c h0
    rw [List.getD_eq_getElem?_getD, List.getElem?_eq_getElem this]
    exact List.getElem_mem _
  · rintro ⟨y, hy, h⟩
    obtain ⟨i, hi⟩ := List.mem_iff_getElem?.1 hy
    have hlt := get_dom hi
    refine ⟨i, by omega, ?_⟩
    rw [Nat.mod_eq_of_lt hlt, List.getD_eq_getElem?_getD, hi]; exact h
theorem all_mod {W : Nat} {l : List Int} {p : Int → Bool} (h0 : 0 < l.length) (hl : l.length ≤ 2 ^ W) : (List.range (2 ^ W)).all (fun c => p (l.getD (c % l.length) 0)) = l.all p := by
  have := any_mod (p := fun x => !p x) h0 hl
  rw [Bool.eq_iff_iff] at this ⊢
  have key : ∀ (b : Bool), b = false ↔ ¬ b = true := fun b => by cases b <;> simp
  constructor
  · intro h
    by_cases hh : l.all p = true
    · exact hh
    · exfalso
      rw [← key, List.all_eq_false] at hh
      obtain ⟨y, hy, h1⟩ := hh
      have := this.2 (List.any_eq_true.2 ⟨y, hy, by simpa using h1⟩)
      rw [List.any_eq_true] at this
      obtain ⟨c, hc, h2⟩ := this
      have := List.all_eq_true.1 h c hc
      rw [this] at h2; cases h2
  · intro h
    rw [List.all_eq_true]
    intro c _
    have hlt := Nat.mod_lt c h0
    refine List.all_eq_true.1 h _ ?_
    rw [List.getD_eq_getElem?_getD, List.getElem?_eq_getElem hlt]
    exact List.getElem_mem _
theorem any_const {n : Nat} {p : Nat → Bool} {b : Bool} (hn : 0 < n) (h : ∀ c, c < n → p c = b) : (List.range n).any p = b := by
  cases b with
  | true => exact List.any_eq_true.2 ⟨0, by simpa using hn, h 0 hn⟩
  | false => exact List.any_eq_false.2 fun c hc => by rw [h c (by simpa using hc)]; simp
theorem all_const {n : Nat} {p : Nat → Bool} {b : Bool} (hn : 0 < n) (h : ∀ c, c < n → p c = b) : (List.range n).all p = b := by
  cases b with
  | true => exact List.all_eq_true.2 fun c hc => h c (by simpa using hc)
  | false => exact List.all_eq_false.2 ⟨0, by simpa using hn, by rw [h 0 hn]; simp⟩
theorem any_congr {n : Nat} {p q : Nat → Bool} (h : ∀ c, c < n → p c = q c) : (List.range n).any p = (List.range n).any q := by
  rw [Bool.eq_iff_iff]; simp only [List.any_eq_true, List.mem_range]
  exact ⟨fun ⟨c, hc, k⟩ => ⟨c, hc, by rw [← h c hc]; exact k⟩, fun ⟨c, hc, k⟩ => ⟨c, hc, by rw [h c hc]; exact k⟩⟩
theorem all_congr {n : Nat} {p q : Nat → Bool} (h : ∀ c, c < n → p c = q c) : (List.range n).all p = (List.range n).all q := by
  rw [Bool.eq_iff_iff]; simp only [List.all_eq_true, List.mem_range]
  exact ⟨fun k c hc => by rw [← h c hc]; exact k c hc, fun k c hc => by rw [h c hc]; exact k c hc⟩
/-- **The game over the moves that are left is the table of the places that win.** -/
theorem game_law {z : Puz} {T : Nat} (hfi : Fine z) (hT : z.moves = T) : ∀ (k t : Nat), t + k = T → ∀ a : List Int, normR 0 a = true → I64 a → (∀ x ∈ a, gabs x ≤ 2 * (widthZ z : Int) * t) →
    gameB (netZ z (widthZ z) T) (RV (widthZ z) k t) a = (seenZ z (widthZ z) a t || (winsB z k).getD (posZ z (widthZ z) a t).toNat false)
  | 0, t, htk, a, hn, h64, hb => by
    have hn' : normal a = true := by rw [normal_eq]; exact hn
    obtain ⟨_, h1, h2⟩ := net_law hfi hT h64 hn'
    have : t = T := by omega
    subst this
    simp only [RV, gameB, h1, hn', h2, Bool.true_and]
    obtain ⟨hp0, hp1⟩ := posZ_in hfi (widthZ z) a t
    have h16 := hfi.n16
    simp only [winsB]
    rw [goalsB_get _ (fun g hg => by have := hfi.goals g hg; omega) _ (by omega), show (((posZ z (widthZ z) a t).toNat : Nat) : Int) = posZ z (widthZ z) a t by omega]
    show seenZ z (widthZ z) a t = _
    cases t with
    | zero => simp [seenZ]
    | succ t => rw [seenZ_succ]; cases seenZ z (widthZ z) a t <;> simp
  | k + 1, t, htk, a, hn, h64, hb => by
    have hT8 : T ≤ 8 := by have := hfi.mv1; omega
    obtain ⟨hW2, hWl⟩ := width_fine hfi
    obtain ⟨W, hW⟩ : ∃ W, widthZ z = W := ⟨_, rfl⟩
    have ih := game_law hfi hT k (t + 1) (by omega)
    rw [hW] at hW2 hWl hb ih ⊢
    have hpre : (netZ z W T).pre = preZ W T := rfl
    have hpw : 0 < 2 ^ W := Nat.pow_pos (by omega)
    obtain ⟨hp0, hp1⟩ := posZ_in hfi W a t
    obtain ⟨x, hx⟩ := get_lt (xs := z.places) (i := (posZ z W a t).toNat) (by omega)
    have hstep : ∀ cm, cm < 2 ^ W → ∀ ct, ct < 2 ^ W → gameB (netZ z W T) (RV W k (t + 1)) ((a ++ sgn cm (choiceV W ((t : Int) + 1) true) W) ++ sgn ct (choiceV W ((t : Int) + 1) false) W) =
        (seenZ z W a t || (winsB z k).getD (if x.to.length = 0 then posZ z W a t else x.to.getD ((if x.mine then cm else ct) % x.to.length) 0).toNat false) := fun cm h1 ct h2 => by
      obtain ⟨m1, m2, m3⟩ := mv_law hW2 (show t < 8 by omega) h1 h2
      rw [List.append_assoc]
      show gameB _ _ (a ++ mv W t cm ct) = _
      have happ : ∀ i, i ≤ t → posZ z W (a ++ mv W t cm ct) i = posZ z W a i := fun i hi => posZ_app i fun j hj m y hy => by
        obtain ⟨y0, y1⟩ := choice_in (T := t) hW2 (by omega) (by omega) hy
        obtain ⟨_, y2⟩ := choice_gt hW2 (by omega) m y hy
        rw [Bool.eq_false_iff]; intro hc
        have := (m2 y (List.contains_iff_mem.1 hc)).1
        omega
      have hnx : posZ z W (a ++ mv W t cm ct) (t + 1) = if x.to.length = 0 then posZ z W a t else x.to.getD ((if x.mine then cm else ct) % x.to.length) 0 := by
        simp only [posZ, happ t (Nat.le_refl _), stepP, hx]
        rw [cnum_app (a := a) (fun y hy => ?_) _ (by rw [choiceV_len]; omega), m3]
        obtain ⟨y0, y2⟩ := choice_gt hW2 (show t < 8 by omega) _ y hy
        rw [Bool.eq_false_iff]; intro hc
        have := hb y (List.contains_iff_mem.1 hc)
        omega
      have hse : seenZ z W (a ++ mv W t cm ct) t = seenZ z W a t := by
        unfold seenZ
        rw [List.map_congr_left fun i hi => happ i (by simp at hi; omega)]
      have hM : 2 * (W : Int) * t ≤ 2 * (W : Int) * (t + 1 : Nat) := by
        have : (0 : Int) ≤ 2 * W := by omega
        exact Int.mul_le_mul_of_nonneg_left (by omega) this
      rw [ih (a ++ mv W t cm ct) (normR_app m1 a 0 hn hb (by have : (0 : Int) ≤ 2 * W := by omega
                                                             exact Int.mul_nonneg this (by omega)))
        (fun y hy => by
          rcases List.mem_append.1 hy with hy | hy
          · exact h64 y hy
          · have := m2 y hy; omega)
        (fun y hy => by
          rcases List.mem_append.1 hy with hy | hy
          · have := hb y hy; omega
          · exact (m2 y hy).2.1)]
      rw [seenZ_succ, hse]
      obtain ⟨q0, q1⟩ := posZ_in hfi W (a ++ mv W t cm ct) (t + 1)
      rw [hnx] at q0 q1 ⊢
      generalize (if x.to.length = 0 then posZ z W a t else x.to.getD ((if x.mine then cm else ct) % x.to.length) 0) = q at q0 q1 ⊢
      obtain ⟨u, hu⟩ := get_lt (xs := z.places) (i := q.toNat) (by omega)
      cases hgq : z.goals.contains q with
      | false => rw [Bool.or_false]
      | true =>
        have := wins_goal hfi k q.toNat hu (by rw [show ((q.toNat : Nat) : Int) = q by omega]; exact hgq)
        rw [this, Bool.or_true, Bool.or_true]
    have hRV : RV W (k + 1) t = choiceV W ((t : Int) + 1) true ++ (choiceV W ((t : Int) + 1) false ++ RV W k (t + 1)) := rfl
    rw [hRV, gameB_block hW2 choiceV_len (by rw [hpre]; exact exOf_preZ hW2 hT8 (by omega) true)]
    simp only [if_true]
    rw [any_congr fun cm hc => (gameB_block hW2 choiceV_len (by rw [hpre]; exact exOf_preZ hW2 hT8 (by omega) false) _)]
    simp only [Bool.false_eq_true, if_false]
    rw [any_congr fun cm hc => all_congr fun ct hct => hstep cm hc ct hct]
    clear hstep ih
    have hpe : (((posZ z W a t).toNat : Nat) : Int) = posZ z W a t := by omega
    simp only [winsB]
    rw [before_get hfi _ hx, hpe]
    have hsg : seenZ z W a t = true ∨ (seenZ z W a t = false ∧ z.goals.contains (posZ z W a t) = false) := by
      cases hs : seenZ z W a t with
      | true => exact .inl rfl
      | false =>
        refine .inr ⟨rfl, ?_⟩
        cases t with
        | zero => simpa [seenZ] using hs
        | succ t => rw [seenZ_succ] at hs; exact (Bool.or_eq_false_iff.1 hs).2
    rcases hsg with hs | ⟨hs, hg⟩
    · rw [hs]
      simp only [Bool.true_or]
      exact any_const hpw fun c _ => all_const hpw fun _ _ => rfl
    · rw [hs, hg]
      simp only [Bool.false_or]
      by_cases h0 : x.to.length = 0
      · simp only [h0, if_true]
        rw [any_const hpw fun c _ => all_const hpw fun _ _ => rfl, wins_stuck hfi k _ hx h0, hpe, hg]
        simp [winB, h0]
      · have hlen := hWl x (List.mem_of_getElem? hx)
        simp only [h0, if_false]
        unfold winB
        rw [show decide (0 < x.to.length) = true by simp; omega, Bool.true_and]
        cases hm : x.mine with
        | true =>
          simp only [if_true]
          rw [any_congr (q := fun c => (winsB z k).getD (x.to.getD (c % x.to.length) 0).toNat false) fun c _ => all_const hpw fun _ _ => rfl]
          rw [any_mod (p := fun w => (winsB z k).getD w.toNat false) (by omega) hlen]
          simp
        | false =>
          simp only [Bool.false_eq_true, if_false]
          rw [any_const hpw fun c _ => all_mod (p := fun w => (winsB z k).getD w.toNat false) (by omega) hlen]
          generalize x.to = l
          induction l with
          | nil => rfl
          | cons y l ih => simp only [List.all_cons, List.any_cons, ih]; cases (winsB z k).getD y.toNat false <;> simp
theorem truth_law {z : Puz} (hfi : Fine z) {T : Nat} (hT : z.moves = T) : gameB (netZ z (widthZ z) T) (flatVars (preZ (widthZ z) T)) [] = (winsB z T).getD z.start.toNat false := by
  have hT8 : T ≤ 8 := by have := hfi.mv1; omega
  rw [RV_all (width_fine hfi).1 hT8, game_law hfi hT T 0 (by omega) [] rfl (fun x hx => by cases hx) (fun x hx => by cases hx)]
  have h0 := hfi.st0
  have h1 := hfi.st1
  obtain ⟨x, hx⟩ := get_lt (xs := z.places) (i := z.start.toNat) (by omega)
  simp only [posZ]
  cases hg : z.goals.contains z.start with
  | false =>
    have : seenZ z (widthZ z) [] 0 = false := by simp [seenZ, posZ]; simpa using hg
    rw [this, Bool.false_or]
  | true =>
    have : (((z.start).toNat : Nat) : Int) = z.start := by omega
    rw [wins_goal hfi T _ hx (by rw [this]; exact hg), Bool.or_true]
end Go.Gh
