/-
  Proved: Join, Less and Close return what the reference returns, for any blocks, numbers and formula, and the arguments stay; where what is read is of bulk at most 1048576.
  Part 6 of 7. Conditions: none. A verified frame that runs compiled texts over a ghost heap, the contracts of the functions that the statement reaches, and the plain law.
-/
import Derived.Test.YtgmmhhbmnfnloaaXK5
namespace Go.Gh
open Go.RowKit Go.Proofs
set_option linter.unusedVariables false
set_option linter.unusedSimpArgs false
set_option maxRecDepth 100000
/-- A list that nobody writes, or none. -/
def FS (s : DV) (l : List Int) : Prop := s = fints l ∨ (s = .nils ∧ l = [])
theorem FS.len {s : DV} {l : List Int} (h : FS s l) : gpure .len [s] = some (.int .i64 l.length) := by
  rcases h with rfl | ⟨rfl, rfl⟩
  · simp
  · rfl
theorem FS.read {s : DV} {l : List Int} (h : FS s l) (σ : GS) : gread 1 s σ = some (l.flatMap eint) ∧ glen s = l.length := by
  rcases h with rfl | ⟨rfl, rfl⟩
  · exact ⟨by simp [gread, flatMap_flatten], by simp [glen]⟩
  · exact ⟨by simp [gread], rfl⟩
theorem FS.rd {s : DV} {l : List Int} (h : FS s l) {σ : GS} {ok : Nat → Prop} : Rd σ ok s (fints l) := by
  rcases h with rfl | ⟨rfl, rfl⟩
  · exact .same _
  · exact .nils 1
theorem FS.flat {s : DV} {l : List Int} (h : FS s l) : s.flat = true := by rcases h with rfl | ⟨rfl, rfl⟩ <;> rfl
theorem raw_rds {n : Nat} {σ : GS} {ok : Nat → Prop} : ∀ {raws : List (Bool × DV)} {bs : List Blk}, raws.length = bs.length → (∀ (i : Nat) r b, raws[i]? = some r → bs[i]? = some b → r.1 = b.1 ∧ Rd σ ok r.2 (fints b.2)) → Rds σ ok (raws.flatMap eraw) (bs.flatMap eblk)
  | [], [], _, _ => .nil
  | r :: raws, b :: bs, hl, h => by
    obtain ⟨h1, h2⟩ := h 0 r b rfl rfl
    have ih := raw_rds (n := n) (raws := raws) (bs := bs) (by simpa using hl) fun i r b h3 h4 => h (i + 1) r b (by simpa using h3) (by simpa using h4)
    rw [List.flatMap_cons, List.flatMap_cons]
    show Rds σ ok (.bool r.1 :: r.2 :: raws.flatMap eraw) (.bool b.1 :: fints b.2 :: bs.flatMap eblk)
    rw [h1]
    exact .cons (.same _) (.cons h2 ih)
  | [], _ :: _, hl, _ => by simp at hl
  | _ :: _, [], hl, _ => by simp at hl
theorem raw_rd {n : Nat} {σ : GS} {s : DV} {raws : List (Bool × DV)} {bs : List Blk} {ok : Nat → Prop} (h : Own n 2 eraw σ s raws) (hok : ∀ i, n ≤ i → ok i) (hlen : raws.length = bs.length) (hr : ∀ (i : Nat) r b, raws[i]? = some r → bs[i]? = some b → r.1 = b.1 ∧ Rd σ ok r.2 (fints b.2)) : Rd σ ok s (fblks bs) := by
  have hrds := raw_rds (n := n) hlen hr
  rcases h with ⟨rfl, hnil⟩ | ⟨id, cap, rest, h1, rfl, h3, h4⟩
  · have : bs = [] := List.length_eq_zero_iff.1 (by rw [← hlen, hnil]; rfl)
    subst this
    exact .nils 2
  · have hl : (raws.flatMap eraw ++ rest).length = raws.length * 2 + rest.length := by rw [List.length_append, flatMap_len (sz := 2) (fun _ => rfl)]
    have hf := flatMap_len (enc := eraw) (sz := 2) (fun _ => rfl) raws
    have := Rd.slice (σ := σ) (ok := ok) (id := id) (off := 0) (sz := 2) (cap := cap) (es := bs.map eblk) (hok id h1) h3 (by rw [hl, List.length_map, hlen]; omega) (fun e he => by obtain ⟨x, _, rfl⟩ := List.mem_map.1 he; rfl) (by
      simp only [List.drop_zero, List.length_map, flatMap_flatten]
      rw [← hlen, ← hf, List.take_left]
      exact hrds)
    rw [hlen]
    simpa using this
/-- A frozen block as a row. -/
abbrev fzB (b : Blk) : Bool × DV := (b.1, fints b.2)
theorem fz_flat (p : List Blk) : (p.map fzB).flatMap eraw = p.flatMap eblk := by induction p <;> simp_all
theorem fz_rd {σ : GS} {ok : Nat → Prop} {p : List Blk} (i : Nat) (r : Bool × DV) (b : Blk) (h1 : (p.map fzB)[i]? = some r) (h2 : p[i]? = some b) : r.1 = b.1 ∧ Rd σ ok r.2 (fints b.2) := by
  rw [List.getElem?_map, h2] at h1
  cases h1
  exact ⟨rfl, .same _⟩
theorem putC_len (F : List Int) : ∀ (c fr : List Int), (putC F fr c).length ≤ fr.length + c.length
  | [], fr => by simp [putC]
  | x :: c, fr => by
    have h1 := putC_len F c (putStep F fr x)
    have h2 : (putStep F fr x).length ≤ fr.length + 1 := by
      unfold putStep; split
      · omega
      · exact putZ_len _ _
    unfold putC at *
    rw [List.foldl_cons, List.length_cons]; omega
theorem putL_len (F : List Int) (cls : List (List Int)) : (putL F cls).length ≤ sumL cls := by
  rw [← freeL_put, sortZ_len]; exact freeL_len F cls
theorem putL_part {F : List Int} {cls : List (List Int)} {i j : Nat} {c : List Int} (h : cls[i]? = some c) : (putC F (putL F (cls.take i)) (c.take j)).length ≤ sumL cls := by
  have h1 := putC_len F (c.take j) (putL F (cls.take i))
  have h2 := putL_len F (cls.take i)
  have h3 := sumL_push h
  have h4 := sumL_take cls (i + 1)
  rw [List.length_take] at h1
  omega
theorem cons_rd {σ : GS} {ok : Nat → Prop} {x : DV} {l : List Int} {rest : List Blk} (h : Rd σ ok x (fints l)) (i : Nat) (r : Bool × DV) (b : Blk) (h1 : ((true, x) :: rest.map fzB)[i]? = some r) (h2 : ((true, l) :: rest)[i]? = some b) : r.1 = b.1 ∧ Rd σ ok r.2 (fints b.2) := by
  cases i with
  | zero => simp at h1 h2; subst h1 h2; exact ⟨rfl, h⟩
  | succ k => rw [List.getElem?_cons_succ] at h1 h2; exact fz_rd k r b h1 h2
theorem st_two {σ : GS} {id : Nat} {a b x y : DV} (h : σ[id]? = some (.row false [a, b])) (hx : x.flat = true) (hy : y.flat = true) : gimp (.store 2) [.ptr id 0, .agg [x, y]] σ = some (.tuple [], σ.set id (.row false [x, y])) := by
  simp only [gimp, h, DV.cells]
  rw [if_pos ⟨rfl, by simp, by simp [hx, hy]⟩]
  rfl
theorem fz_app {H : GS} {x : Bool × DV} (hx : x.2.flat = true) {p : List Blk} (hp : p.length < 2 ^ 40) :
    ∃ v H2, gimp (.append 2 32) [.slice H.length 0 1 2 (some 1), fblks p] (H ++ [.row false (eraw x)]) = some (v, H2) ∧ Own H.length 2 eraw H2 v (x :: p.map fzB) ∧ Fr H.length H H2 := by
  have hO : Own H.length 2 eraw (H ++ [.row false (eraw x)]) (.slice H.length 0 [x].length 2 (some 1)) [x] := Own.at_ (Nat.le_refl _) (by simp) (by simp)
  obtain ⟨v, H2, q1, q2, q3, q4, q5, q6, _⟩ := hO.append (by_ := 32) (x := fblks p) (ys := p.map fzB) (fun _ => rfl) (by rw [fz_flat]; simpa [flatMap_flatten] using gread_fsl (σ := H ++ [.row false (eraw x)]) (sz := 2) (es := p.map eblk)) (by simp [glen]) (fun y hy => by obtain ⟨b, _, rfl⟩ := List.mem_map.1 hy; simp) (by simp) (by simp; omega) (by decide)
  exact ⟨v, H2, q1, q2, (Fr.rfl'.app _).trans q3⟩
set_option maxHeartbeats 2000000 in
theorem r_Close_ok {q : QbfP} {σ : GS} {Post : DV → GS → Prop} (hp : lensB q.pre < 2 ^ 39) (hc : lensC q.cls < 2 ^ 40) (hw : WfC q.cls) (h : Post (.tuple [(closeP q).1.enc, .int .i64 (closeP q).2]) σ) : GCall Try.prog F_skolemref03_Close [q.enc] σ Post := by
  have hlb := lensB_flat q.pre
  have hll := sumL_lens q.cls
  have hcl1 := closed_fblks (closeP q).1.pre
  have hcl2 := closed_fcls (closeP q).1.cls
  refine GCall.pure (r := .tuple [(closeP q).1.enc, .int .i64 (closeP q).2]) ?_ (by simp [DV.closed, closeds] at hcl1 hcl2 ⊢; exact ⟨hcl1, hcl2⟩) h
  refine gc_skolemref03_Close ?_
  simp [G_skolemref03_Close, genv0, List.replicate]
  refine r_May_ok (by omega) ?_
  cases hm : mayB q.pre with
  | false =>
    simp [closeP, hm]
    exact .tuple (.cons (.agg (.cons (.nils 2) (.cons (.nils 1) .nil))) (.cons (.same _) .nil))
  | true =>
  simp
  refine r_Cnf_ok hc ?_
  cases hk : cnfB q.cls with
  | false =>
    simp [closeP, hm, hk]
    exact .tuple (.cons (.agg (.cons (.nils 2) (.cons (.nils 1) .nil))) (.cons (.same _) .nil))
  | true =>
  simp
  refine r_Flat_ok (by omega) ?_
  simp
  obtain ⟨F, hFe⟩ : ∃ F, flatB q.pre = F := ⟨_, rfl⟩
  rw [hFe] at hlb ⊢
  refine gfor q.cls.length (fun i e σ' => σ' = σ ++ [.row false (eqbf q), .row false [.nils, .nils]] ∧ ∃ s, FS s (putL F (q.cls.take i)) ∧ e = mkEnv 100 [(1, .ptr σ.length 0), (2, .ptr (σ.length + 1) 0), (4, fints F), (5, s), (6, .int .i64 i)]) _ ?_ ⟨rfl, .nils, .inr ⟨rfl, by simp [putL]⟩, rfl⟩ ?_
  · simp [mkEnv, List.replicate]
  rintro i _ σ' hi ⟨rfl, s, hS, rfl⟩
  simp [mkEnv, List.replicate]
  by_cases hlt : i < q.cls.length
  · obtain ⟨c, hc1⟩ := nth_lt hlt
    have hc' := nth_get hc1
    have es : IntKind.i64.wrap ((i : Int) + 1) = (i : Int) + 1 := by rw [wrap_small] <;> omega
    have hcm := lensC_mem (List.mem_of_getElem? hc')
    simp [hlt]
    refine gfor c.length (fun j e σ' => σ' = σ ++ [.row false (eqbf q), .row false [.nils, .nils]] ∧ ∃ s, FS s (putC F (putL F (q.cls.take i)) (c.take j)) ∧ e = mkEnv 100 [(1, .ptr σ.length 0), (2, .ptr (σ.length + 1) 0), (4, fints F), (5, s), (6, .int .i64 i), (7, .int .i64 j)]) _ ?_ ⟨rfl, s, by simpa [putC] using hS, rfl⟩ ?_
    · simp [mkEnv, List.replicate]
    clear hS
    rintro j _ σ' hj ⟨rfl, s, hS, rfl⟩
    simp [mkEnv, List.replicate, hc1]
    by_cases hjl : j < c.length
    rotate_left
    · have : j = c.length := by omega
      subst this
      rw [List.take_length] at hS
      simp [es]
      exact forK_go _ hlt (by simp [mkEnv, List.replicate]) ⟨rfl, s, by rw [putL_push hc']; exact hS, rfl⟩
    obtain ⟨y, hy⟩ := nth_lt hjl
    have hy' := nth_get hy
    have es3 : IntKind.i64.wrap ((j : Int) + 1) = (j : Int) + 1 := by rw [wrap_small] <;> omega
    have hyw := hw c (List.mem_of_getElem? hc') y (List.mem_of_getElem? hy')
    simp [hjl, hy, hc1]
    refine r_Abs_ok ?_
    rw [absW_eq hyw]
    simp
    refine r_Has_ok (by omega) ?_
    have hpush := putC_push (F := F) (fr := putL F (q.cls.take i)) hy'
    unfold putStep at hpush
    have hpl := putL_part (F := F) (j := j) hc'
    cases hg : F.contains (absW y) with
    | true =>
      rw [hg, if_pos rfl] at hpush
      simp [es3]
      exact forK_go _ hjl (by simp [mkEnv, List.replicate]) ⟨rfl, s, by rw [hpush]; exact hS, rfl⟩
    | false =>
      rw [hg, if_neg (by simp)] at hpush
      simp
      refine GCall.reads (args' := [fints (putC F (putL F (q.cls.take i)) (c.take j)), .int .i64 (absW y)]) (.cons hS.rd (.cons (.same _) .nil)) (r_Put_ok (by omega) ?_)
      simp [es3]
      exact forK_go _ hjl (by simp [mkEnv, List.replicate]) ⟨rfl, fints (putZ (putC F (putL F (q.cls.take i)) (c.take j)) (absW y)), by rw [hpush]; exact .inl rfl, rfl⟩
  have : i = q.cls.length := by omega
  subst this
  rw [List.take_length] at hS
  obtain ⟨fr, hfr⟩ : ∃ fr, putL F q.cls = fr := ⟨_, rfl⟩
  have hsl := sortZ_len (freeL F q.cls)
  have hfl := putL_len F q.cls
  rw [freeL_put, hfr] at hsl
  rw [hfr] at hS hfl
  have ew : IntKind.i64.wrap ((F.length : Int) + fr.length) = (F.length : Int) + fr.length := by rw [wrap_small] <;> omega
  simp [hS.len, ew]
  by_cases c1 : F.length + fr.length ≤ 1024
  rotate_left
  · have c1' : (1024 : Int) < (F.length : Int) + fr.length := by omega
    simp [c1', closeP, hm, hk, hFe, ← hsl, c1]
    exact .tuple (.cons (.agg (.cons (.nils 2) (.cons (.nils 1) .nil))) (.cons (.same _) .nil))
  have c1' : ¬ (1024 : Int) < (F.length : Int) + fr.length := by omega
  have hv : closeP q = (⟨joinB (refB q.pre fr), q.cls⟩, 0) := by
    unfold closeP
    rw [hm, hk, hFe, ← hsl, freeL_put, hfr, join_ins hm]
    simp [c1]
  rw [hv]
  simp [c1']
  obtain ⟨H, hH⟩ : ∃ H, σ ++ [GObj.row false (eqbf q), .row false [.nils, .nils]] = H := ⟨_, rfl⟩
  have hb0 : H[σ.length]? = some (.row false (eqbf q)) := by rw [← hH]; simp
  have hb1 : H[σ.length + 1]? = some (.row false [.nils, .nils]) := by rw [← hH]; simp
  have hHl : H.length = σ.length + 2 := by rw [← hH]; simp
  have hF0 : Fr σ.length σ H := by rw [← hH]; exact .app .rfl' _
  rw [hH]
  have hfil : gfill [(0, 1), (1, 1)] [.bool false, .nils] [.bool true, s] = some [.bool true, s] := fill_flat2 rfl hS.flat
  have hrl : lensB (refB q.pre fr) < 2 ^ 40 := Nat.lt_of_le_of_lt (refB_lens q.pre fr) (by omega)
  cases hpre : q.pre with
  | nil =>
    have hbb : True := trivial
    simp [hfil, bs2_agg]
    obtain ⟨v, H2, a1, a2, a3⟩ := fz_app (H := H) (x := (true, s)) hS.flat (p := []) (by simp)
    rw [hpre] at hrl
    have b0 : H2[σ.length]? = some (.row false (eqbf q)) := (a3.get _ (by omega)).trans hb0
    simp [a1, ld_at b0]
    refine rd_call (raw_rd (bs := (true, fr) :: []) a2 (fun _ h => Nat.le_trans (by omega) h) (by simp) (cons_rd hS.rd)) ((Fr.refl (by omega)).trans (a3.mono (m := σ.length + 2) (by omega))) fun H3 hF3 _ => r_JoinedF_ok hrl ?_
    have e0 : H3[σ.length]? = some (.row false (eqbf q)) := (hF3.get _ (by omega)).trans hb0
    have e1 : H3[σ.length + 1]? = some (.row false [.nils, .nils]) := (hF3.get _ (by omega)).trans hb1
    simp [ld_at e0, fill_flat2, ld_at b0]
    have hst := st_two e1 (x := fblks (joinB ((true, fr) :: []))) (y := fcls q.cls) rfl rfl
    have hld : gload (.load 2 true) [.ptr (σ.length + 1) 0] (H3.set (σ.length + 1) (.row false [fblks (joinB ((true, fr) :: [])), fcls q.cls])) = some (.agg [fblks (joinB ((true, fr) :: [])), fcls q.cls]) := by rw [ld_agg (List.getElem?_set_self (get_dom e1))]; rfl
    simp [hst, hld, refB, hbb]
    exact ⟨(hF0.trans (hF3.mono (by omega))).set (by omega) _, .same _⟩
  | cons b rest =>
    have hrest : rest.length < 2 ^ 39 := by have : q.pre.length = rest.length + 1 := by rw [hpre]; rfl
                                            omega
    rw [hpre] at hrl
    cases hbb : b.1 with
    | false =>
      simp [hbb, hfil, bs2_agg]
      obtain ⟨v, H2, a1, a2, a3⟩ := fz_app (H := H) (x := (true, s)) hS.flat (p := b :: rest) (by simp; omega)
      have hre : refB (b :: rest) fr = (true, fr) :: b :: rest := by simp [refB, hbb]
      rw [hre] at hrl
      have b0 : H2[σ.length]? = some (.row false (eqbf q)) := (a3.get _ (by omega)).trans hb0
      simp [a1, ld_at b0]
      refine rd_call (raw_rd (bs := (true, fr) :: b :: rest) a2 (fun _ h => Nat.le_trans (by omega) h) (by simp) (cons_rd hS.rd)) ((Fr.refl (by omega)).trans (a3.mono (m := σ.length + 2) (by omega))) fun H3 hF3 _ => r_JoinedF_ok hrl ?_
      have e0 : H3[σ.length]? = some (.row false (eqbf q)) := (hF3.get _ (by omega)).trans hb0
      have e1 : H3[σ.length + 1]? = some (.row false [.nils, .nils]) := (hF3.get _ (by omega)).trans hb1
      simp [ld_at e0, fill_flat2, ld_at b0]
      have hst := st_two e1 (x := fblks (joinB ((true, fr) :: b :: rest))) (y := fcls q.cls) rfl rfl
      have hld : gload (.load 2 true) [.ptr (σ.length + 1) 0] (H3.set (σ.length + 1) (.row false [fblks (joinB ((true, fr) :: b :: rest)), fcls q.cls])) = some (.agg [fblks (joinB ((true, fr) :: b :: rest)), fcls q.cls]) := by rw [ld_agg (List.getElem?_set_self (get_dom e1))]; rfl
      simp [hst, hld, refB, hbb]
      exact ⟨(hF0.trans (hF3.mono (by omega))).set (by omega) _, .same _⟩
    | true =>
      have hre : refB (b :: rest) fr = (true, b.2 ++ fr) :: rest := by simp [refB, hbb]
      rw [hre] at hrl
      have hbl : b.2.length < 2 ^ 40 := by
        have := lensB_mem (p := (true, b.2 ++ fr) :: rest) (b := (true, b.2 ++ fr)) (by simp)
        simp at this; omega
      simp [hbb]
      obtain ⟨t, G, z1, z2, z3, z4, z5, z6, _⟩ := (Own.nil0 (n := H.length) (σ := H) (Nat.le_refl _)).append (by_ := 8) (x := fints b.2) (ys := b.2) (fun _ => rfl) (by simpa [flatMap_flatten] using gread_fsl (σ := H ++ [.row false (gzeros [.int .i64 0] 0)]) (sz := 1) (es := b.2.map eint)) (by simp [glen]) (by simp) (by simp) (by simp; omega) (by decide)
      obtain ⟨u, G2, y1, y2, y3, y4, y5, y6, _⟩ := z2.append (by_ := 8) (x := s) (ys := fr) (fun _ => rfl) (hS.read G).1 (hS.read G).2 (by simp) (by simp at z4; omega) (by simp; omega) (by decide)
      simp at y2
      have hsl2 : gpure (.slice 2 true false false) [fblks (b :: rest), .int .i64 1] = some (fblks rest) := by
        simp [gpure, gslice, gbm, gbh, gbl, gbound]
        rw [if_pos (by omega)]
        simp [List.take_of_length_le]
      have hG : Fr H.length H G2 := ((Fr.rfl'.app _).trans z3).trans y3
      have hGl := hG.len
      simp [z1, y1, fill_flat2, y2.flat, bs2_agg, hsl2]
      obtain ⟨v, H2, a1, a2, a3⟩ := fz_app (H := G2) (x := (true, u)) y2.flat (p := rest) (by omega)
      have hGa : Fr H.length H H2 := hG.trans (a3.mono hGl)
      have hu := (y2.fr a3).rd (ok := fun i => σ.length + 2 ≤ i) (fun _ => rfl) (fun i hi => by omega)
      have b0 : H2[σ.length]? = some (.row false (eqbf q)) := (hGa.get _ (by omega)).trans hb0
      simp [a1, ld_at b0]
      refine rd_call (raw_rd (bs := (true, (b.2 ++ fr)) :: rest) a2 (fun _ h => Nat.le_trans (by omega) h) (by simp) (cons_rd hu)) ((Fr.refl (by omega)).trans (hGa.mono (m := σ.length + 2) (by omega))) fun H3 hF3 _ => r_JoinedF_ok hrl ?_
      have e0 : H3[σ.length]? = some (.row false (eqbf q)) := (hF3.get _ (by omega)).trans hb0
      have e1 : H3[σ.length + 1]? = some (.row false [.nils, .nils]) := (hF3.get _ (by omega)).trans hb1
      simp [ld_at e0, fill_flat2, ld_at b0]
      have hst := st_two e1 (x := fblks (joinB ((true, b.2 ++ fr) :: rest))) (y := fcls q.cls) rfl rfl
      have hld : gload (.load 2 true) [.ptr (σ.length + 1) 0] (H3.set (σ.length + 1) (.row false [fblks (joinB ((true, b.2 ++ fr) :: rest)), fcls q.cls])) = some (.agg [fblks (joinB ((true, b.2 ++ fr) :: rest)), fcls q.cls]) := by rw [ld_agg (List.getElem?_set_self (get_dom e1))]; rfl
      simp [hst, hld, refB, hbb]
      exact ⟨(hF0.trans (hF3.mono (by omega))).set (by omega) _, .same _⟩
end Go.Gh
namespace Go.Gh
open Go.RowKit Go.Proofs
set_option linter.unusedVariables false
set_option linter.unusedSimpArgs false
set_option maxRecDepth 100000
/-- A copy of a list of blocks. -/
def CB (n : Nat) (σ : GS) (s : DV) (p : List Blk) : Prop :=
  (p = [] ∧ (s = .nils ∨ ∃ id, n ≤ id ∧ s = .slice id 0 0 2 (some 0) ∧ σ[id]? = some (.row false []))) ∨ (p ≠ [] ∧ ∃ id, n ≤ id ∧ s = .slice id 0 p.length 2 none ∧ σ[id]? = some (.row false (p.flatMap eblk)))
theorem p_CloneB_ok {p : List Blk} {σ : GS} {Post : DV → GS → Prop} (hp : p.length < 2 ^ 40) (k : ∀ s σ', CB σ.length σ' s p → Fr σ.length σ σ' → Post s σ') : GCall Try.prog F_slices_Clone_api_Block_api_Block [fblks p] σ Post := by
  refine gc_slices_Clone_api_Block_api_Block ?_
  simp [G_slices_Clone_api_Block_api_Block, genv0, List.replicate]
  refine eqn_any (by simp only [nilq]; split <;> simp) fun b hb => ?_
  cases b with
  | true =>
    have : p = [] := by
      simp only [nilq, List.length_map] at hb
      split at hb
      · simp at hb
      · exact List.length_eq_zero_iff.1 (by omega)
    subst this
    simp
    exact k .nils σ (.inl ⟨rfl, .inl rfl⟩) .rfl'
  | false =>
    by_cases h0 : p = []
    · subst h0
      have q1 : gimp (.append 2 32) [.slice σ.length 0 0 2 (some 0), fblks []] (σ ++ [.row false (gzeros [.bool false, .nils] 0)]) = some (.slice σ.length 0 0 2 (some 0), σ ++ [.row false (gzeros [.bool false, .nils] 0)]) := by
        simp [gimp, gappend, gread, glen]
      simp [q1]
      exact k _ _ (.inl ⟨rfl, .inr ⟨σ.length, Nat.le_refl _, rfl, by simp [gzeros]⟩⟩) (.app .rfl' _)
    · have hlen : p.length ≠ 0 := fun e => h0 (List.length_eq_zero_iff.1 e)
      have hgo : growOk p.length 32 = true := by simp [growOk]; omega
      have q1 : gimp (.append 2 32) [.slice σ.length 0 0 2 (some 0), fblks p] (σ ++ [.row false (gzeros [.bool false, .nils] 0)]) = some (.slice (σ.length + 1) 0 p.length 2 none, σ ++ [.row false (gzeros [.bool false, .nils] 0), .row false (p.flatMap eblk)]) := by
        have hr : gread 2 (fblks p) (σ ++ [.row false (gzeros [.bool false, .nils] 0)]) = some (p.flatMap eblk) := by simp [gread, flatMap_flatten]
        simp [gimp, gappend, hr, glen, hlen, h0, hgo, gread_at0]
      simp [q1]
      refine k _ _ (.inr ⟨h0, σ.length + 1, by omega, rfl, by simp⟩) (.app .rfl' _)
/-- A block is put into the copy. -/
theorem p_InsB_ok {n i id2 : Nat} {p : List Blk} {s : DV} {x : Bool × DV} {σ : GS} {Post : DV → GS → Prop} (hs : CB n σ s p) (hp : p.length < 2 ^ 38) (hi : i ≤ p.length) (h2 : σ[id2]? = some (.row false (eraw x))) (hid : id2 < n) (hn : n ≤ σ.length) (hx : x.2.flat = true)
    (k : ∀ v σ', Own n 2 eraw σ' v (p.take i |>.map fzB |> (· ++ x :: (p.drop i).map fzB)) → Fr n σ σ' → Post v σ') : GCall Try.prog F_slices_Insert_api_Block_api_Block [s, .int .i64 i, .slice id2 0 1 2 (some 1)] σ Post := by
  have hrd : gread 2 (.slice id2 0 1 2 (some 1)) σ = some ([x].flatMap eraw) := by rw [gread_at h2 (by simp) (by omega)]; simp
  have app : ∀ {t : DV}, Own n 2 eraw σ t (p.map fzB) → i = p.length → ∃ v σ', gimp (.append 2 32) [t, .slice id2 0 1 2 (some 1)] σ = some (v, σ') ∧ Own n 2 eraw σ' v (p.take i |>.map fzB |> (· ++ x :: (p.drop i).map fzB)) ∧ Fr n σ σ' := fun {t} ht e => by
    obtain ⟨v, σ', q1, q2, q3, _⟩ := ht.append (by_ := 32) (x := .slice id2 0 1 2 (some 1)) (ys := [x]) (fun _ => rfl) hrd (by simp [glen]) (fun y hy => by simp at hy; subst hy; simp [hx]) hn (by simp; omega) (by decide)
    refine ⟨v, σ', q1, ?_, q3⟩
    subst e
    simpa using q2
  by_cases hlt : i < p.length
  · rcases hs with ⟨rfl, _⟩ | ⟨_, id, h3, rfl, h4⟩
    · simp at hlt
    · have hfl : (p.flatMap eblk).all DV.flat = true := by
        rw [List.all_eq_true]
        intro d hd
        obtain ⟨b, _, hb⟩ := List.mem_flatMap.1 hd
        simp at hb
        rcases hb with rfl | rfl <;> rfl
      have hln := flatMap_len (enc := eblk) (sz := 2) (fun _ => rfl) p
      obtain ⟨x1, x2⟩ := x
      refine (insert_run h4 hln h2 (by omega) hlt (by omega) hfl rfl hx).mono ?_
      rintro v σ' ⟨rfl, rfl⟩
      have hidl := get_dom h4
      refine k _ _ (.inr ⟨σ.length, none, [], hn, ?_, ?_, by simp⟩) ⟨by simp; omega, fun j hj => ?_⟩
      · congr 1; simp; omega
      · have e1 : p.flatMap eblk = (p.take i).flatMap eblk ++ (p.drop i).flatMap eblk := by rw [← List.flatMap_append, List.take_append_drop]
        have e2 : ((p.take i).flatMap eblk).length = i * 2 := by rw [flatMap_len (enc := eblk) (sz := 2) (fun _ => rfl)]; simp; omega
        have e3 : (p.flatMap eblk).take (i * 2) = (p.take i).flatMap eblk := by rw [e1, ← e2, List.take_left]
        have e4 : (p.flatMap eblk).drop (i * 2) = (p.drop i).flatMap eblk := by rw [e1, ← e2, List.drop_left]
        rw [e3, e4, List.getElem?_append_right (by simp)]
        simp only [List.flatMap_append, List.flatMap_cons, fz_flat]
        simp
      · rw [List.getElem?_append_left (by simp; omega), List.getElem?_set_ne (by omega)]
  have e : i = p.length := by omega
  rcases hs with ⟨rfl, rfl | ⟨id, h3, rfl, h4⟩⟩ | ⟨h0, id, h3, rfl, h4⟩
  · obtain ⟨v, σ', q1, q2, q3⟩ := app (t := .nils) .nil e
    refine gc_slices_Insert_api_Block_api_Block ?_
    have hi0 : i = 0 := e
    subst hi0
    have hs1 : gpure (.slice 2 true false false) [.nils, .int .i64 0] = some .nils := rfl
    simp [G_slices_Insert_api_Block_api_Block, genv0, List.replicate, hs1, q1]
    exact k _ _ q2 q3
  · have ho : Own n 2 eraw σ (.slice id 0 0 2 (some 0)) (([] : List Blk).map fzB) := .inr ⟨id, some 0, [], h3, rfl, by simpa using h4, fun c h => by cases h; simp⟩
    obtain ⟨v, σ', q1, q2, q3⟩ := app ho e
    refine gc_slices_Insert_api_Block_api_Block ?_
    have hi0 : i = 0 := e
    subst hi0
    have hs1 := slice_loC (id := id) (off := 0) (L := 0) (c := 0) (k := 0) (sz := 2) (by omega) (by omega)
    simp at hs1
    simp [G_slices_Insert_api_Block_api_Block, genv0, List.replicate, hs1, q1]
    exact k _ _ q2 q3
  · have ho : Own n 2 eraw σ (.slice id 0 p.length 2 none) (p.map fzB) := .inr ⟨id, none, [], h3, by simp, by rw [fz_flat]; simpa using h4, by simp⟩
    obtain ⟨v, σ', q1, q2, q3⟩ := app ho e
    refine gc_slices_Insert_api_Block_api_Block ?_
    have hs1 := slice_loN (id := id) (off := 0) (L := p.length) (k := i) (sz := 2) (by omega)
    subst e
    simp at hs1
    simp [G_slices_Insert_api_Block_api_Block, genv0, List.replicate, hs1, q1]
    exact k _ _ q2 q3
end Go.Gh
namespace Go.Gh
open Go.RowKit Go.Proofs
set_option linter.unusedVariables false
set_option linter.unusedSimpArgs false
set_option maxRecDepth 100000
theorem p_CloneF_ok {xs : List Int} {σ : GS} {Post : DV → GS → Prop} (hl : xs.length < 2 ^ 43) (h : Post (fints xs) σ) : GCall Try.prog F_slices_Clone_int_int [fints xs] σ Post :=
  GCall.pure (clone_frz (n := σ.length) hl (Nat.le_refl _) fun s' σ' hO hF _ _ => ⟨hF, hO.rd (fun _ => rfl) fun i hi => .inl hi⟩) (by simp) h
theorem mslice_nils {n : Nat} (h : n < 2 ^ 40) (k j : IntKind) : galloc (.mslice 1 24 [.nils]) [.int k (n : Int), .int j (n : Int)] = some (.row false (List.replicate n .nils), fun id => .slice id 0 n 1 (some n)) := by
  simp only [galloc]
  rw [if_pos (by omega)]
  simp [gzeros]
theorem p_copied_ok {l : List (List Int)} {σ : GS} {Post : DV → GS → Prop} (hl : lensC l < 2 ^ 40) (h : Post (fcls l) σ) : GCall Try.prog F_prefix_copied [fcls l] σ Post := by
  have hll : l.length ≤ lensC l := by unfold lensC; omega
  refine GCall.pure (r := fcls l) ?_ (by simp) h
  refine gc_prefix_copied ?_
  simp [G_prefix_copied, genv0, List.replicate, mslice_nils (show l.length < 2 ^ 40 by omega)]
  refine gfor l.length (fun i e σ' => Fr σ.length σ σ' ∧ σ'[σ.length]? = some (.row false ((l.take i).flatMap ecl ++ List.replicate (l.length - i) .nils)) ∧ e = mkEnv 23 [(3, .slice σ.length 0 l.length 1 (some l.length)), (9, fcls l), (10, .int .i64 l.length), (11, .int .i64 i)]) _ ?_ ⟨.app .rfl' _, by simp, rfl⟩ ?_
  · simp [mkEnv, List.replicate]
  rintro i _ σ1 hi ⟨hF, hr, rfl⟩
  simp [mkEnv, List.replicate]
  by_cases hlt : i < l.length
  · obtain ⟨c, hc⟩ := nth_lt hlt
    have hc' := nth_get hc
    have hcm := lensC_mem (List.mem_of_getElem? hc')
    have es : IntKind.i64.wrap ((i : Int) + 1) = (i : Int) + 1 := by rw [wrap_small] <;> omega
    have hia := iaddr_own (id := σ.length) (n := l.length) (sz := 1) (i := i) (k := .i64) (cap := some l.length) hlt
    simp only [Nat.mul_one] at hia
    have hln : ((l.take i).flatMap ecl).length = i := by rw [flatMap_len (sz := 1) (fun _ => rfl)]; simp; omega
    have hsto := st_cell hr (k := i) (v := fints c) (by rw [List.length_append, hln, List.length_replicate]; omega) rfl
    have hcells : ((l.take i).flatMap ecl ++ List.replicate (l.length - i) DV.nils).set i (fints c) = (l.take (i + 1)).flatMap ecl ++ List.replicate (l.length - (i + 1)) DV.nils := by
      rw [List.set_append_right _ _ (by omega), hln, Nat.sub_self, take_get hc', List.flatMap_append]
      rw [show l.length - i = (l.length - (i + 1)) + 1 by omega, List.replicate_succ]
      simp
    rw [hcells] at hsto
    simp [hlt, hc]
    refine p_CloneF_ok (by omega) ?_
    simp [hia, hsto, es]
    exact forK_go _ hlt (by simp [mkEnv, List.replicate]) ⟨hF.set (Nat.le_refl _) _, by rw [List.getElem?_set_self (get_dom hr)], rfl⟩
  · have : i = l.length := by omega
    subst this
    simp at hr
    simp
    have hO : Own σ.length 1 ecl σ1 (.slice σ.length 0 l.length 1 (some l.length)) l := .inr ⟨σ.length, some l.length, [], Nat.le_refl _, rfl, by simpa using hr, fun c h => by cases h; simp⟩
    exact ⟨hF, hO.rd (fun _ => rfl) fun i hi => .inl hi⟩
theorem p_Close1_ok {x : Int} {σ : GS} {Post : DV → GS → Prop} (h : Post (.bool true) σ) : GCall Try.prog F_prefix_Close_1 [.int .i64 x] σ Post := by
  refine gc_prefix_Close_1 ?_
  simp [G_prefix_Close_1, genv0, List.replicate]
  exact h
theorem cnfG_true (l : List (List Int)) : cnfG (fun _ => true) l = cnfB l := by rw [cnfG_eq]; simp
theorem place_len {p : List Blk} {E : List (Int × DV)} (hm : mayB p = true) (hE : PlaceE p E) (hn : (E.map (·.1)).Nodup) : E.length = (flatB p).length := by
  have h1 := (singleS_nodup (mayB_parts hm).2.2).1
  have hp : (E.map (·.1)).Perm (flatB p) := by
    refine (List.perm_ext_iff_of_nodup hn h1).2 fun v => ?_
    have h2 := findO_flat (v := v) (p := p) (k := 0)
    have h3 := hE v
    constructor
    · intro hv
      have : kget v E ≠ none := fun e => (kget_none.1 e) hv
      cases hf : findO 0 p v with
      | none => rw [hf] at h3; exact absurd h3 this
      | some y => rw [hf] at h2; simpa using h2.symm
    · intro hv
      rw [List.contains_iff_mem.2 hv] at h2
      obtain ⟨y, hy⟩ := Option.isSome_iff_exists.1 h2
      rw [hy] at h3
      exact List.mem_map.2 ⟨_, kget_mem h3, rfl⟩
  have := hp.length_eq
  simpa using this
end Go.Gh
namespace Go.Gh
open Go.RowKit Go.Proofs
set_option linter.unusedVariables false
set_option linter.unusedSimpArgs false
set_option maxRecDepth 100000
/-- The heap of Close: the argument, the result, where the variables stand, and the block of free variables. -/
structure ClH (σ : GS) (N : Nat) (q : QbfP) (F fr : List Int) (s : DV) (E : List (Int × DV)) (σ' : GS) : Prop where
  f0 : Fr σ.length σ σ'
  b0 : σ'[σ.length]? = some (.row false (eqbf q))
  b1 : σ'[σ.length + 1]? = some (.row false [.nils, .nils])
  mp : MpO kint σ' (σ.length + 2 + 1) E
  key : ∀ k, (kget k E).isSome = (F.contains k || fr.contains k)
  val : ∀ k u, kget k E = some u → ∃ x, u = placeV x
  fb : σ'[N]? = some (.row false [.bool true, s])
  own : Own (N + 1) 1 eint σ' s fr
theorem ClH.fr {σ : GS} {N : Nat} {q : QbfP} {F fr : List Int} {s : DV} {E : List (Int × DV)} {σ' σ'' : GS} (h : ClH σ N q F fr s E σ') (hf : Fr σ'.length σ' σ'') : ClH σ N q F fr s E σ'' :=
  ⟨h.f0.trans (hf.mono h.f0.len), (hf.get _ (get_dom h.b0)).trans h.b0, (hf.get _ (get_dom h.b1)).trans h.b1, h.mp.fit (hf.get _ h.mp.dom), h.key, h.val, (hf.get _ (get_dom h.fb)).trans h.fb, h.own.fr hf⟩
theorem ClH.add {σ : GS} {N : Nat} {q : QbfP} {F fr : List Int} {s : DV} {E : List (Int × DV)} {σ' : GS} (h : ClH σ N q F fr s E σ') (hN : σ.length + 3 < N) (hl : fr.length < 2 ^ 40) (v : Int) (hv : kget v E = none) :
    ∃ o s' σ2 E', gimp (.mset (.int .i64)) [.map (σ.length + 2 + 1), .int .i64 v, .agg [.int .i64 0, .bool false]] σ' = some (.tuple [], σ'.set (σ.length + 2 + 1) o) ∧ gload (.load 1 false) [.ptr N 1] (σ'.set (σ.length + 2 + 1) o) = some s ∧
      gimp (.append 1 8) [s, .slice (σ'.set (σ.length + 2 + 1) o).length 0 1 1 (some 1)] (σ'.set (σ.length + 2 + 1) o ++ [.row false (eint v)]) = some (s', σ2) ∧ gimp (.store 1) [.ptr N 1, s'] σ2 = some (.tuple [], σ2.set N (.row false [.bool true, s'])) ∧ ClH σ N q F (fr ++ [v]) s' E' (σ2.set N (.row false [.bool true, s'])) := by
  obtain ⟨o, q1, q2⟩ := h.mp.set (kt := .int .i64) v (placeV (0, false))
  have hfb : (σ'.set (σ.length + 2 + 1) o)[N]? = some (.row false [.bool true, s]) := by rw [List.getElem?_set_ne (by omega)]; exact h.fb
  have hO : Own (N + 1) 1 eint (σ'.set (σ.length + 2 + 1) o) s fr := h.own.fit fun j hj => List.getElem?_set_ne (by have := h.own.has_ge hj; omega)
  have hlen : N + 1 ≤ (σ'.set (σ.length + 2 + 1) o).length := get_dom hfb
  obtain ⟨s', σ2, z1, z2, z3, z4, z5, z6⟩ := hO.push (by_ := 8) v (fun _ => rfl) (by simp) hlen (by omega) (by decide)
  have hfb2 : σ2[N]? = some (.row false [.bool true, s]) := by rw [z3.get _ (by omega)]; exact hfb
  have hsto := st_cell hfb2 (k := 1) (v := s') (by simp) z2.flat
  simp only [List.set_cons_succ, List.set_cons_zero] at hsto
  refine ⟨o, s', σ2, kset v (placeV (0, false)) E, q1, by rw [ld_at hfb]; rfl, z1, hsto, ((h.f0.set (by omega) _).trans (z3.mono (by omega))).set (by omega) _, ?_, ?_, ?_, fun k => ?_, fun k u hk => ?_, by rw [List.getElem?_set_self (get_dom hfb2)], z2.fit fun j hj => List.getElem?_set_ne (by have := z2.has_ge hj; omega)⟩
  · rw [List.getElem?_set_ne (by omega), z3.get _ (by omega), List.getElem?_set_ne (by omega)]; exact h.b0
  · rw [List.getElem?_set_ne (by omega), z3.get _ (by omega), List.getElem?_set_ne (by omega)]; exact h.b1
  · exact q2.fit (by rw [List.getElem?_set_ne (by omega), z3.get _ (by omega)])
  · rw [kget_set]
    have := h.key k
    by_cases e : k = v
    · simp [e]
    · rw [if_neg e, this]; simp [e]
  · rw [kget_set] at hk
    split at hk
    · cases hk; exact ⟨_, rfl⟩
    · exact h.val k u hk
theorem ld_agg2 {σ : GS} {id : Nat} {ro : Bool} {a b : DV} (h : σ[id]? = some (.row ro [a, b])) : gload (.load 2 true) [.ptr id 0] σ = some (.agg [a, b]) := by rw [ld_agg h]; rfl
set_option maxHeartbeats 2000000 in
theorem p_Close_ok {q : QbfP} {σ : GS} {Post : DV → GS → Prop} (hp : lensB q.pre < 2 ^ 37) (hc : lensC q.cls < 2 ^ 37) (h : Post (.tuple [(closeP q).1.enc, .int .i64 (closeP q).2]) σ) : GCall Try.prog F_prefix_Close [q.enc] σ Post := by
  have hlb := lensB_flat q.pre
  have hll := sumL_lens q.cls
  have hcl1 := closed_fblks (closeP q).1.pre
  have hcl2 := closed_fcls (closeP q).1.cls
  refine GCall.pure (r := .tuple [(closeP q).1.enc, .int .i64 (closeP q).2]) ?_ (by simp [DV.closed, closeds] at hcl1 hcl2 ⊢; exact ⟨hcl1, hcl2⟩) h
  refine gc_prefix_Close ?_
  simp [G_prefix_Close, genv0, List.replicate]
  refine p_May_ok (by omega) ?_
  cases hm : mayB q.pre with
  | false =>
    simp [closeP, hm]
    exact .tuple (.cons (.agg (.cons (.nils 2) (.cons (.nils 1) .nil))) (.cons (.same _) .nil))
  | true =>
  simp
  refine p_cnf_ok (pre := []) (g := fun _ => true) (by omega) (fun x K hK => p_Close1_ok hK) ?_
  rw [cnfG_true]
  cases hk : cnfB q.cls with
  | false =>
    simp [closeP, hm, hk]
    exact .tuple (.cons (.agg (.cons (.nils 2) (.cons (.nils 1) .nil))) (.cons (.same _) .nil))
  | true =>
  simp
  refine p_places_ok (by omega) fun E G0 hE hEE hM hF => ?_
  simp at hM hF
  have hEl := place_len hm hE hM.1
  obtain ⟨F, hFe⟩ : ∃ F, flatB q.pre = F := ⟨_, rfl⟩
  have hG0l : σ.length + 3 < G0.length := hM.dom
  have hM1 : MpO kint (G0 ++ [.row false [.bool true, .nils]]) (σ.length + 2 + 1) E := hM.fit (List.getElem?_append_left hM.dom)
  have hbx0 : (G0 ++ [.row false [.bool true, .nils]])[σ.length]? = some (.row false (eqbf q)) := by rw [List.getElem?_append_left (by omega), hF.get _ (by omega)]; simp
  have hbx1 : (G0 ++ [.row false [.bool true, .nils]])[σ.length + 1]? = some (.row false [.nils, .nils]) := by rw [List.getElem?_append_left (by omega), hF.get _ (by omega)]; simp
  have hF0 : Fr σ.length σ (G0 ++ [.row false [.bool true, .nils]]) := ((Fr.rfl'.app _).trans (hF.mono (by omega))).app _
  simp [fill_one, hM1.mlen, hEl, ld_at hbx0]
  have hC0 : ClH σ G0.length q F (freeL F (q.cls.take 0)) .nils E (G0 ++ [.row false [.bool true, .nils]]) :=
    ⟨hF0, hbx0, hbx1, hM1, fun k => by rw [hE k, Option.isSome_map, findO_flat, hFe]; simp [freeL], fun k u hk => by rw [hE k] at hk; simp only [Option.map_eq_some_iff] at hk; obtain ⟨x, _, rfl⟩ := hk; exact ⟨x, rfl⟩, by simp, by simpa [freeL] using Own.nil⟩
  rw [hFe] at hlb ⊢
  obtain ⟨N, hN⟩ : ∃ N, G0.length = N := ⟨_, rfl⟩
  rw [hN] at hC0 hG0l ⊢
  refine gfor q.cls.length (fun i e σ' => ∃ s E, ClH σ N q F (freeL F (q.cls.take i)) s E σ' ∧ e = mkEnv 99 [(1, .ptr σ.length 0), (2, .ptr (σ.length + 1) 0), (4, .map (σ.length + 2 + 1)), (5, .ptr N 0), (6, .int .i64 F.length), (32, fcls q.cls), (33, .int .i64 q.cls.length), (34, .int .i64 i)]) _ ?_ ⟨.nils, E, hC0, rfl⟩ ?_
  · simp [mkEnv, List.replicate]
  clear hC0 hF0 hbx0 hbx1 hM1 hF hM hE hEl hEE E
  rintro i _ σ1 hi ⟨s, E, hC, rfl⟩
  simp [mkEnv, List.replicate]
  by_cases hlt : i < q.cls.length
  · obtain ⟨c, hc1⟩ := nth_lt hlt
    have hc' := nth_get hc1
    have es : IntKind.i64.wrap ((i : Int) + 1) = (i : Int) + 1 := by rw [wrap_small] <;> omega
    have hcm := lensC_mem (List.mem_of_getElem? hc')
    simp [hlt, hc1]
    refine gfor c.length (fun j e σ' => ∃ s E, ClH σ N q F (freeC F (freeL F (q.cls.take i)) (c.take j)) s E σ' ∧ e = mkEnv 99 [(1, .ptr σ.length 0), (2, .ptr (σ.length + 1) 0), (4, .map (σ.length + 2 + 1)), (5, .ptr N 0), (6, .int .i64 F.length), (32, fcls q.cls), (33, .int .i64 q.cls.length), (34, .int .i64 i), (38, fints c), (39, .int .i64 c.length), (40, .int .i64 j)]) _ ?_ ⟨s, E, by simpa [freeC] using hC, rfl⟩ ?_
    · simp [mkEnv, List.replicate]
    clear hC
    rintro j _ σ2 hj ⟨s, E, hC, rfl⟩
    simp [mkEnv, List.replicate]
    by_cases hjl : j < c.length
    rotate_left
    · have : j = c.length := by omega
      subst this
      rw [List.take_length] at hC
      simp [es]
      exact forK_go _ hlt (by simp [mkEnv, List.replicate]) ⟨s, E, by rw [freeL_push hc']; exact hC, rfl⟩
    obtain ⟨y, hy⟩ := nth_lt hjl
    have hy' := nth_get hy
    have es3 : IntKind.i64.wrap ((j : Int) + 1) = (j : Int) + 1 := by rw [wrap_small] <;> omega
    have hpush := freeC_push (F := F) (fr := freeL F (q.cls.take i)) hy'
    have hpl := freeL_part (F := F) (j := j) hc'
    obtain ⟨fr, hfr⟩ : ∃ fr, freeC F (freeL F (q.cls.take i)) (c.take j) = fr := ⟨_, rfl⟩
    rw [hfr] at hpush hpl hC
    have hlk := hC.mp.lookup (kt := .int .i64) (absW y) (.agg [.int .i64 0, .bool false]) true
    simp [hjl, hy]
    refine p_abs_ok ?_
    have hkey := hC.key (absW y)
    cases hkg : kget (absW y) E with
    | some u =>
      obtain ⟨x, rfl⟩ := hC.val _ _ hkg
      rw [hkg] at hlk hkey
      simp at hlk
      simp [hlk, placeV, es3]
      have hst : freeStep F fr y = fr := by unfold freeStep; rw [← hkey]; rfl
      exact forK_go _ hjl (by simp [mkEnv, List.replicate]) ⟨s, E, by rw [hpush, hst]; exact hC.fr (Fr.rfl'.app _), rfl⟩
    | none =>
      rw [hkg] at hlk hkey
      simp at hlk
      have hst : freeStep F fr y = fr ++ [absW y] := by unfold freeStep; rw [if_neg (by rw [← hkey]; simp)]
      have hC1 := hC.fr (Fr.rfl'.app [.row false [.int .i64 0, .bool false]])
      obtain ⟨o, s', σ3, E', a1, a2, a3, a4, a5⟩ := hC1.add (by omega) (by omega) (absW y) hkg
      simp [hlk]
      refine p_abs_ok ?_
      simp at a1 a2 a3 a4
      simp [a1, a2]
      refine p_abs_ok ?_
      simp [a1, a2, a3, a4, es3]
      exact forK_go _ hjl (by simp [mkEnv, List.replicate]) ⟨s', E', by rw [hpush, hst]; exact a5, rfl⟩
  have : i = q.cls.length := by omega
  subst this
  rw [List.take_length] at hC
  have hfl := freeL_len F q.cls
  obtain ⟨fr, hfr⟩ : ∃ fr, freeL F q.cls = fr := ⟨_, rfl⟩
  rw [hfr] at hC hfl
  have hld : gload (.load 1 false) [.ptr N 1] σ1 = some s := by rw [ld_at hC.fb]; rfl
  have ew : IntKind.i64.wrap ((F.length : Int) + fr.length) = (F.length : Int) + fr.length := by rw [wrap_small] <;> omega
  simp [hld, hC.own.len, ew]
  by_cases c1 : F.length + fr.length ≤ 1024
  rotate_left
  · have c1' : (1024 : Int) < (F.length : Int) + fr.length := by omega
    have hst := st_two hC.b1 (x := .nils) (y := .nils) rfl rfl
    have hld2 : gload (.load 2 true) [.ptr (σ.length + 1) 0] (σ1.set (σ.length + 1) (.row false [.nils, .nils])) = some (.agg [.nils, .nils]) := by rw [ld_agg (List.getElem?_set_self (get_dom hC.b1))]; rfl
    simp [c1', closeP, hm, hk, hFe, hfr, c1, hst, hld2]
    exact ⟨hC.f0.set (by omega) _, .tuple (.cons (.agg (.cons (.nils 2) (.cons (.nils 1) .nil))) (.cons (.same _) .nil))⟩
  have c1' : ¬ (1024 : Int) < (F.length : Int) + fr.length := by omega
  have hv : closeP q = (⟨joinB (insB q.pre (sortZ fr)), q.cls⟩, 0) := by
    unfold closeP
    rw [hm, hk, hFe, hfr]
    simp [c1]
  rw [hv]
  simp [c1', hld]
  have hlen1 : N + 1 ≤ σ1.length := get_dom hC.fb
  refine (Own.sort (f := F_Sort) sortC sortX (n := N + 1) hC.own (by omega) hlen1).mono ?_
  rintro v σ2 ⟨rfl, hO2, hF2, hl2, _⟩
  obtain ⟨fs, hfs⟩ : ∃ fs, sortZ fr = fs := ⟨_, rfl⟩
  have hO3 : Own (N + 1) 1 eint σ2 s fs := by rw [← hfs]; exact hO2
  rw [hfs]
  have d0 : σ2[σ.length]? = some (.row false (eqbf q)) := (hF2.get _ (by omega)).trans hC.b0
  have d1 : σ2[σ.length + 1]? = some (.row false [.nils, .nils]) := (hF2.get _ (by omega)).trans hC.b1
  have d2 : σ2[N]? = some (.row false [.bool true, s]) := (hF2.get _ (by omega)).trans hC.fb
  have hF3 : Fr σ.length σ σ2 := hC.f0.trans (hF2.mono (by omega))
  have hpl : q.pre.length < 2 ^ 38 := by omega
  have dn : (σ2 ++ [.row false [.bool true, s]])[N]? = some (.row false [.bool true, s]) := by rw [List.getElem?_append_left (by omega)]; exact d2
  have dd : (σ2 ++ [.row false [.bool true, s]])[σ.length]? = some (.row false (eqbf q)) := by rw [List.getElem?_append_left (by omega)]; exact d0
  cases hpre : q.pre with
  | nil =>
    simp [ld_at d0, ld_agg2 d2, hpre, bs2_agg, ld_at dd]
    refine p_CloneB_ok (by first | (simp; omega) | simp) fun c1s σ3 hCB hF4 => ?_
    simp at hF4
    have e0 : σ3[σ.length]? = some (.row false (eqbf q)) := by rw [hF4.get _ (by omega), List.getElem?_append_left (by omega)]; exact d0
    have e1 : σ3[σ.length + 1]? = some (.row false [.nils, .nils]) := by rw [hF4.get _ (by omega), List.getElem?_append_left (by omega)]; exact d1
    have e2 : σ3[N]? = some (.row false [.bool true, s]) := by rw [hF4.get _ (by omega), List.getElem?_append_left (by omega)]; exact d2
    have e3 : σ3[σ2.length]? = some (.row false (eraw (true, s))) := by rw [hF4.get _ (by omega)]; simp
    simp [ld_at e0, ld_agg2 e2, ld_at d0, ld_agg2 d2, hpre]
    refine ⟨⟨(ld_agg2 dn).symm, e3, by rw [ld_at dd]; rfl⟩, ?_⟩
    refine p_InsB_ok (i := 0) (x := (true, s)) hCB (by first | (simp; omega) | simp) (by simp) e3 (by simp) (by simp; exact hF4.len) hO3.flat fun v σ4 hOv hFv => ?_
    simp at hFv
    have hl4 := hF4.len
    have hlv := hFv.len
    have g0 : σ4[σ.length]? = some (.row false (eqbf q)) := (hFv.get _ (by omega)).trans e0
    have g1 : σ4[σ.length + 1]? = some (.row false [.nils, .nils]) := (hFv.get _ (by omega)).trans e1
    have hs4 : Own (N + 1) 1 eint σ4 s fs := hO3.fit fun j hj => by
      have := hO3.has_lt hj
      rw [hFv.get j (by omega), hF4.get j (by omega), List.getElem?_append_left (by omega)]
    have hs4r := hs4.rd (ok := fun i => σ.length + 2 ≤ i) (fun _ => rfl) (fun i hi => by omega)
    have hbl : lensB ((true, fs) :: []) < 2 ^ 40 := by
      have := insB_lens q.pre fs
      have hfsl : fs.length = fr.length := by rw [← hfs]; exact sortZ_len fr
      rw [hpre] at this
      simp [insB, atB] at this
      rw [this, ← hpre]
      omega
    simp [ld_at dd]
    refine ⟨by rw [ld_at g0, ld_at e0], ?_⟩
    refine rd_call (n := σ.length + 2) (raw_rd (bs := (true, fs) :: []) hOv (fun _ h => Nat.le_trans (by simp; omega) h) (by simp) (cons_rd hs4r)) (Fr.refl (by omega)) fun σ5 hF5 _ => p_joinedF_ok hbl ?_
    have k0 : σ5[σ.length]? = some (.row false (eqbf q)) := (hF5.get _ (by omega)).trans g0
    have k1 : σ5[σ.length + 1]? = some (.row false [.nils, .nils]) := (hF5.get _ (by omega)).trans g1
    have hFf : Fr σ.length σ σ5 := (((hF3.app _).trans (hF4.mono (by omega))).trans (hFv.mono (by omega))).trans (hF5.mono (by omega))
    have hst := st_two k1 (x := fblks (joinB ((true, fs) :: []))) (y := fcls q.cls) rfl rfl
    have hld9 := ld_agg2 (List.getElem?_set_self (l := σ5) (i := σ.length + 1) (a := .row false [fblks (joinB ((true, fs) :: [])), fcls q.cls]) (get_dom k1))
    simp [ld_at dd]
    refine ⟨by rw [ld_at k0, ld_at g0], ?_⟩
    refine p_copied_ok (by omega) ?_
    simp [fill_flat2, hst, hld9, insB, atB]
    exact ⟨hFf.set (by omega) _, .same _⟩
  | cons b rest =>
    rw [hpre] at hpl
    simp at hpl
    cases hbb : b.1 with
    | true =>
      simp [ld_at d0, ld_agg2 d2, hpre, hbb, bs2_agg, ld_at dd]
      refine p_CloneB_ok (by first | (simp; omega) | simp) fun c1s σ3 hCB hF4 => ?_
      simp at hF4
      have e0 : σ3[σ.length]? = some (.row false (eqbf q)) := by rw [hF4.get _ (by omega), List.getElem?_append_left (by omega)]; exact d0
      have e1 : σ3[σ.length + 1]? = some (.row false [.nils, .nils]) := by rw [hF4.get _ (by omega), List.getElem?_append_left (by omega)]; exact d1
      have e2 : σ3[N]? = some (.row false [.bool true, s]) := by rw [hF4.get _ (by omega), List.getElem?_append_left (by omega)]; exact d2
      have e3 : σ3[σ2.length]? = some (.row false (eraw (true, s))) := by rw [hF4.get _ (by omega)]; simp
      simp [ld_at e0, ld_agg2 e2, ld_at d0, ld_agg2 d2, hpre, hbb]
      refine ⟨⟨(ld_agg2 dn).symm, e3, by rw [ld_at dd]; rfl⟩, ?_⟩
      refine p_InsB_ok (i := 1) (x := (true, s)) hCB (by first | (simp; omega) | simp) (by simp) e3 (by simp) (by simp; exact hF4.len) hO3.flat fun v σ4 hOv hFv => ?_
      simp at hFv
      have hl4 := hF4.len
      have hlv := hFv.len
      have g0 : σ4[σ.length]? = some (.row false (eqbf q)) := (hFv.get _ (by omega)).trans e0
      have g1 : σ4[σ.length + 1]? = some (.row false [.nils, .nils]) := (hFv.get _ (by omega)).trans e1
      have hs4 : Own (N + 1) 1 eint σ4 s fs := hO3.fit fun j hj => by
        have := hO3.has_lt hj
        rw [hFv.get j (by omega), hF4.get j (by omega), List.getElem?_append_left (by omega)]
      have hs4r := hs4.rd (ok := fun i => σ.length + 2 ≤ i) (fun _ => rfl) (fun i hi => by omega)
      have hbl : lensB (b :: (true, fs) :: rest) < 2 ^ 40 := by
        have := insB_lens q.pre fs
        have hfsl : fs.length = fr.length := by rw [← hfs]; exact sortZ_len fr
        rw [hpre] at this
        simp [insB, atB, hbb] at this
        rw [this, ← hpre]
        omega
      simp [ld_at dd]
      refine ⟨by rw [ld_at g0, ld_at e0], ?_⟩
      refine rd_call (n := σ.length + 2) (raw_rd (bs := b :: (true, fs) :: rest) hOv (fun _ h => Nat.le_trans (by simp; omega) h) (by simp) ?_) (Fr.refl (by omega)) fun σ5 hF5 _ => p_joinedF_ok hbl ?_
      · rintro (_ | i) r b' h1 h2
        · simp at h1 h2
          subst h1 h2
          exact ⟨rfl, .same _⟩
        · exact cons_rd hs4r i r b' (by simpa using h1) (by simpa using h2)
      have k0 : σ5[σ.length]? = some (.row false (eqbf q)) := (hF5.get _ (by omega)).trans g0
      have k1 : σ5[σ.length + 1]? = some (.row false [.nils, .nils]) := (hF5.get _ (by omega)).trans g1
      have hFf : Fr σ.length σ σ5 := (((hF3.app _).trans (hF4.mono (by omega))).trans (hFv.mono (by omega))).trans (hF5.mono (by omega))
      have hst := st_two k1 (x := fblks (joinB (b :: (true, fs) :: rest))) (y := fcls q.cls) rfl rfl
      have hld9 := ld_agg2 (List.getElem?_set_self (l := σ5) (i := σ.length + 1) (a := .row false [fblks (joinB (b :: (true, fs) :: rest)), fcls q.cls]) (get_dom k1))
      simp [ld_at dd]
      refine ⟨by rw [ld_at k0, ld_at g0], ?_⟩
      refine p_copied_ok (by omega) ?_
      simp [fill_flat2, hst, hld9, insB, atB, hbb]
      exact ⟨hFf.set (by omega) _, .same _⟩
    | false =>
      simp [ld_at d0, ld_agg2 d2, hpre, hbb, bs2_agg, ld_at dd]
      refine p_CloneB_ok (by first | (simp; omega) | simp) fun c1s σ3 hCB hF4 => ?_
      simp at hF4
      have e0 : σ3[σ.length]? = some (.row false (eqbf q)) := by rw [hF4.get _ (by omega), List.getElem?_append_left (by omega)]; exact d0
      have e1 : σ3[σ.length + 1]? = some (.row false [.nils, .nils]) := by rw [hF4.get _ (by omega), List.getElem?_append_left (by omega)]; exact d1
      have e2 : σ3[N]? = some (.row false [.bool true, s]) := by rw [hF4.get _ (by omega), List.getElem?_append_left (by omega)]; exact d2
      have e3 : σ3[σ2.length]? = some (.row false (eraw (true, s))) := by rw [hF4.get _ (by omega)]; simp
      simp [ld_at e0, ld_agg2 e2, ld_at d0, ld_agg2 d2, hpre, hbb]
      refine ⟨⟨(ld_agg2 dn).symm, e3, by rw [ld_at dd]; rfl⟩, ?_⟩
      refine p_InsB_ok (i := 0) (x := (true, s)) hCB (by first | (simp; omega) | simp) (by simp) e3 (by simp) (by simp; exact hF4.len) hO3.flat fun v σ4 hOv hFv => ?_
      simp at hFv
      have hl4 := hF4.len
      have hlv := hFv.len
      have g0 : σ4[σ.length]? = some (.row false (eqbf q)) := (hFv.get _ (by omega)).trans e0
      have g1 : σ4[σ.length + 1]? = some (.row false [.nils, .nils]) := (hFv.get _ (by omega)).trans e1
      have hs4 : Own (N + 1) 1 eint σ4 s fs := hO3.fit fun j hj => by
        have := hO3.has_lt hj
        rw [hFv.get j (by omega), hF4.get j (by omega), List.getElem?_append_left (by omega)]
      have hs4r := hs4.rd (ok := fun i => σ.length + 2 ≤ i) (fun _ => rfl) (fun i hi => by omega)
      have hbl : lensB ((true, fs) :: b :: rest) < 2 ^ 40 := by
        have := insB_lens q.pre fs
        have hfsl : fs.length = fr.length := by rw [← hfs]; exact sortZ_len fr
        rw [hpre] at this
        simp [insB, atB, hbb] at this
        rw [this, ← hpre]
        omega
      simp [ld_at dd]
      refine ⟨by rw [ld_at g0, ld_at e0], ?_⟩
      refine rd_call (n := σ.length + 2) (raw_rd (bs := (true, fs) :: b :: rest) hOv (fun _ h => Nat.le_trans (by simp; omega) h) (by simp) (cons_rd hs4r)) (Fr.refl (by omega)) fun σ5 hF5 _ => p_joinedF_ok hbl ?_
      have k0 : σ5[σ.length]? = some (.row false (eqbf q)) := (hF5.get _ (by omega)).trans g0
      have k1 : σ5[σ.length + 1]? = some (.row false [.nils, .nils]) := (hF5.get _ (by omega)).trans g1
      have hFf : Fr σ.length σ σ5 := (((hF3.app _).trans (hF4.mono (by omega))).trans (hFv.mono (by omega))).trans (hF5.mono (by omega))
      have hst := st_two k1 (x := fblks (joinB ((true, fs) :: b :: rest))) (y := fcls q.cls) rfl rfl
      have hld9 := ld_agg2 (List.getElem?_set_self (l := σ5) (i := σ.length + 1) (a := .row false [fblks (joinB ((true, fs) :: b :: rest)), fcls q.cls]) (get_dom k1))
      simp [ld_at dd]
      refine ⟨by rw [ld_at k0, ld_at g0], ?_⟩
      refine p_copied_ok (by omega) ?_
      simp [fill_flat2, hst, hld9, insB, atB, hbb]
      exact ⟨hFf.set (by omega) _, .same _⟩
end Go.Gh
namespace Go.Gh
open Go.RowKit Go.Proofs
set_option linter.unusedVariables false
set_option linter.unusedSimpArgs false
set_option maxRecDepth 100000
theorem l_wide_one {p : List Blk} {most : Int} {σ : GS} {Post : DV → GS → Prop} (hp : p.length < 2 ^ 60) (h : ∀ b, Post (.bool b) σ) : GCall Try.prog F_skolemlaw03_wide [fblks p, .nils, .int .i64 most] σ Post := by
  refine GCall.reads (args' := [fblks p, fcls [], .int .i64 most]) (.cons (.same _) (.cons (.nils 1) (.cons (.same _) .nil))) (l_wide_any hp (by simp) h)
end Go.Gh
namespace Go.Gh
open Go.RowKit Go.Proofs
set_option linter.unusedVariables false
set_option linter.unusedSimpArgs false
set_option maxRecDepth 100000
theorem r_SameQbf_ok {a b : QbfP} {σ : GS} {Post : DV → GS → Prop} (hp : lensB a.pre < 2 ^ 40) (hc : lensC a.cls < 2 ^ 40) (h : Post (.bool (decide (a.pre = b.pre ∧ a.cls = b.cls))) σ) : GCall Try.prog F_skolemref03_SameQbf [a.enc, b.enc] σ Post := by
  have h2 : a.cls.length ≤ lensC a.cls := by unfold lensC; omega
  refine GCall.say (r := .bool (decide (a.pre = b.pre ∧ a.cls = b.cls))) ?_ rfl h
  refine gc_skolemref03_SameQbf ?_
  simp [G_skolemref03_SameQbf, genv0, List.replicate]
  refine r_Same_ok hp ?_
  by_cases c : a.pre = b.pre
  · simp [c]
    refine r_Lists_ok ⟨by omega, fun c hc => by have := lensC_mem hc; omega⟩ ?_
    simp
    exact fun _ => c
  · simp [c]
theorem joinStep_ne {out : List Blk} {b : Blk} (h : ∀ c ∈ out, c.2 ≠ []) : ∀ c ∈ joinStep out b, c.2 ≠ [] := by
  unfold joinStep
  split
  · exact h
  · rename_i hb
    split
    · rename_i c hc
      split
      · intro d hd
        rcases List.mem_or_eq_of_mem_set hd with hd | rfl
        · exact h d hd
        · simp [hb]
      · intro d hd
        rcases List.mem_append.1 hd with hd | hd
        · exact h d hd
        · simp at hd; subst hd; exact hb
    · intro d hd
      rcases List.mem_append.1 hd with hd | hd
      · exact h d hd
      · simp at hd; subst hd; exact hb
theorem joinB_ne (p : List Blk) : ∀ c ∈ joinB p, c.2 ≠ [] := by
  have : ∀ (p out : List Blk), (∀ c ∈ out, c.2 ≠ []) → ∀ c ∈ p.foldl joinStep out, c.2 ≠ [] := fun p => by
    induction p with
    | nil => exact fun out h => h
    | cons b p ih => exact fun out h => ih _ (joinStep_ne h)
  exact this p [] (by simp)
theorem joinP_ne (p : List Blk) : ∀ c ∈ (joinP p).1, c.2 ≠ [] := by
  unfold joinP
  split
  · split
    · exact joinB_ne p
    · simp
  · simp
/-- A number in a block is written. -/
theorem JnR.poke {n : Nat} {σ : GS} {s : DV} {raws : List (Bool × DV)} {bs : List Blk} (h : JnR n σ s raws bs) {i : Nat} {b : Blk} (hb : bs[i]? = some b) (hne : b.2 ≠ []) (y : Int) :
    ∃ id r id2 σ', gpure (.iaddr 2) [s, .int .i64 (i : Int)] = some (.ptr id (i * 2)) ∧ gload (.load 1 false) [.ptr id (i * 2 + 1)] σ = some r ∧ gpure (.iaddr 1) [r, .int .i64 0] = some (.ptr id2 0) ∧ gimp (.store 1) [.ptr id2 0, .int .i64 y] σ = some (.tuple [], σ') ∧ JnR n σ' s raws (bs.set i (b.1, b.2.set 0 y)) ∧ σ'.length = σ.length ∧ Fr n σ σ' := by
  obtain ⟨r, hr, r1, r2, r3⟩ := h.get hb
  obtain ⟨id, g1, g2, g3, g4⟩ := h.own.get (fun _ => rfl) hr (k := .i64)
  have g5 := g4 1 (by omega)
  obtain ⟨id2, σ', k1, k2, k3, k4, k5, k6⟩ := Own.set (f := DV.int .i64) r2 (i := 0) (List.length_pos_iff.2 hne) y rfl (k := .i64)
  have hi := get_dom hb
  refine ⟨id, r.2, id2, σ', g2, by simpa using g5, by simpa using k2, k3, ⟨h.own.fit fun j hj => k6 j fun hh => r3 j hh hj, by simp [h.len], fun j r' c h1 h2 => ?_, h.off⟩, k5, ⟨by have := r2.has_ge k1; have := r2.has_lt k1; omega, fun j hj => k6 j fun hh => by have := r2.has_ge hh; omega⟩⟩
  by_cases e : i = j
  · subst e
    rw [List.getElem?_set_self hi] at h2
    cases h2
    rw [hr] at h1; cases h1
    exact ⟨r1, k4, r3⟩
  · rw [List.getElem?_set_ne e] at h2
    obtain ⟨a1, a2, a3⟩ := h.at_ j r' c h1 h2
    exact ⟨a1, a2.fit fun k hk => k6 k fun hh => h.off i j r r' e hr h1 k hh hk, a3⟩
theorem lessP_lens (p : List Blk) (vars : List Int) : lensB (lessP p vars).1 ≤ lensB p := by
  unfold lessP
  split
  · exact Nat.le_trans (joinB_lens _) (lessB_lens vars p)
  · simp [lensB]
theorem joinP_lens (p : List Blk) : lensB (joinP p).1 ≤ lensB p := by
  unfold joinP
  split
  · split
    · exact joinB_lens p
    · simp [lensB]
  · simp [lensB]
theorem closeP_lens (q : QbfP) : lensB (closeP q).1.pre ≤ lensB q.pre + 1025 ∧ lensC (closeP q).1.cls ≤ lensC q.cls := by
  unfold closeP
  split
  · split
    · refine ⟨?_, Nat.le_refl _⟩
      have h1 := joinB_lens (insB q.pre (sortZ (freeL (flatB q.pre) q.cls)))
      rw [insB_lens, sortZ_len] at h1
      simp only
      omega
    · simp [lensB, lensC]
  · simp [lensB, lensC]
set_option maxHeartbeats 4000000 in
theorem makes_ok {p : List Blk} {vars : List Int} {q : QbfP} (hp : lensB p < 2 ^ 37) (hv : vars.length < 2 ^ 40) (hq : q.sz < 2 ^ 36) (hw : WfC q.cls) {σ : GS} {Post : DV → GS → Prop} (h : Post (.bool true) σ) : GCall Try.prog F_skolemlaw03_PrefixMakes [fblks p, fints vars, q.enc] σ Post := by
  have hlb := lensB_flat p
  have hq1 : lensB q.pre + lensC q.cls < 2 ^ 36 := hq
  have hlq := lensB_flat q.pre
  have h2 : q.cls.length ≤ lensC q.cls := by unfold lensC; omega
  refine GCall.say (r := .bool true) ?_ rfl h
  refine gc_skolemlaw03_PrefixMakes ?_
  simp [G_skolemlaw03_PrefixMakes, genv0, List.replicate]
  refine l_wide_one (by omega) fun b => ?_
  cases b with
  | true => simp; refine head_ok ?_; simp
  | false =>
  simp
  refine l_wide_any (by omega) (by omega) fun b => ?_
  cases b with
  | true => simp; refine head_ok ?_; simp
  | false =>
  by_cases h16 : (1600 : Int) < vars.length
  · simp [h16]
    refine head_ok ?_
    simp
  simp [h16]
  refine r_Flat_ok (by omega) ?_
  simp
  refine p_Join_ok (by omega) fun s σ1 hJ hF1 => ?_
  simp
  refine r_JoinF_ok (by omega) ?_
  simp
  refine p_Less_ok (by omega) (by omega) ?_
  simp
  refine r_Less_ok (by omega) (by omega) ?_
  simp
  simp at hF1 hJ
  have hF10 := hF1.len
  have b0 : σ1[σ.length]? = some (.row false (eqbf q)) := by rw [hF1.get _ (by omega)]; simp
  simp [ld_agg2 b0]
  refine p_Close_ok (by omega) (by omega) ?_
  have dd : ∀ τ : GS, (σ1 ++ τ)[σ.length]? = some (.row false (eqbf q)) := fun τ => by rw [List.getElem?_append_left (by omega)]; exact b0
  simp [ld_agg2 (dd _)]
  refine r_Close_ok (by omega) (by omega) hw ?_
  simp
  obtain ⟨l1, l2⟩ := closeP_lens q
  have l3 := joinP_lens p
  have l4 := lessP_lens p vars
  obtain ⟨X, hX⟩ : ∃ X, closeP q = X := ⟨_, rfl⟩
  rw [hX] at l1 l2 ⊢
  obtain ⟨τ, hτ⟩ : ∃ τ, σ1 ++ [GObj.row false (eqbf X.1), .row false (eqbf X.1)] = τ := ⟨_, rfl⟩
  have x0 : τ[σ1.length]? = some (.row false (eqbf X.1)) := by rw [← hτ]; simp
  have x1 : τ[σ1.length + 1]? = some (.row false (eqbf X.1)) := by rw [← hτ]; simp
  have hJτ : Jn (σ.length + 1) τ s (joinP p).1 := hJ.fr (by rw [← hτ]; exact .app .rfl' _)
  have hFτ : Fr σ.length σ τ := by rw [← hτ]; exact ((Fr.rfl'.app _).trans (hF1.mono (by omega))).app _
  rw [hτ]
  refine GCall.borrow (args' := [fblks (joinP p).1, fblks (joinP p).1]) (r := .bool true) (.cons (hJτ.rd fun _ _ => trivial) (.cons (.same _) .nil)) (by simp [closeds]) rfl (r_Same_ok (by omega) (by simp)) ?_
  simp
  refine r_Same_ok (by omega) ?_
  simp [ld_agg2 x0, ld_agg2 x1]
  refine r_SameQbf_ok (by omega) (by omega) ?_
  simp
  have hne := joinP_ne p
  obtain ⟨L, hL⟩ : ∃ L, (joinP p).1.length = L := ⟨_, rfl⟩
  have hLl : L ≤ lensB (joinP p).1 := by rw [← hL]; unfold lensB; omega
  refine gfor L (fun i e σ' => Fr σ.length σ σ' ∧ (∃ bs, Jn (σ.length + 1) σ' s bs ∧ bs.length = L ∧ ∀ c ∈ bs, c.2 ≠ []) ∧ e = mkEnv 121 [(0, fblks p), (7, fints (flatB p)), (8, s), (20, .bool true), (21, .int .i64 i)]) _ ?_ ⟨hFτ, ⟨_, hJτ, hL, hne⟩, rfl⟩ ?_
  · simp [mkEnv, List.replicate]
  rintro i _ σ2 hi ⟨hF2, ⟨bs, hB, hbl, hbn⟩, rfl⟩
  simp [mkEnv, List.replicate, hB.glen, hbl]
  by_cases hlt : i < L
  · obtain ⟨b, hb⟩ := get_lt (xs := bs) (i := i) (by omega)
    obtain ⟨raws, hR⟩ := hB
    have hb2 := hbn b (List.mem_of_getElem? hb)
    have es : IntKind.i64.wrap ((i : Int) + 1) = (i : Int) + 1 := by rw [wrap_small] <;> omega
    obtain ⟨id, r, id2, σ3, a1, a2, a3, a4, a5, a6, a7⟩ := hR.poke hb hb2 (-7)
    simp [hlt, a1, a2, a3, a4, es]
    refine forK_go _ hlt (by simp [mkEnv, List.replicate]) ⟨hF2.trans (a7.mono (by omega)), ⟨_, ⟨raws, a5⟩, by simp [hbl], fun c hc => ?_⟩, rfl⟩
    rcases List.mem_or_eq_of_mem_set hc with hc | rfl
    · exact hbn c hc
    · simp [hb2]
  have : i = L := by omega
  subst this
  simp
  refine r_Flat_ok (by omega) ?_
  simp
  refine r_Ints_ok (by omega) ?_
  simp
  refine head_ok ?_
  simp
  exact hF2
end Go.Gh
