/-
  Proved: what Reduce leaves is left again, is part of the literals in their order, and what it takes away stands behind all literals of the other quantifier; where what is read is of bulk at most 1048576.
  Part 5 of 6. Conditions: none. A verified frame that runs compiled texts over a ghost heap, the contracts of the functions that the statement reaches, and the plain law.
-/
import Derived.Test.YtgmmhhbmnfnloaaXR4
import Derived.Test.YtgmmhhbmnfnloaaProg
import Derived.KernelRfl
namespace Go.Gh
open Go.Proofs
theorem seatfollows : Try.prog.follows .mixedOrders = true := by kernel_rfl
abbrev F_slices_Insert_api_Block_api_Block : Nat := 45
abbrev F_slices_overlaps_api_Block : Nat := 71
abbrev F_slices_rotateRight_api_Block : Nat := 72
noncomputable abbrev G_slices_Insert_api_Block_api_Block : GFun := ⟨95, [(.tmp 6)], (.seq (.region [⟨0, ⟨(some 6), none, (.pure .id), [(.const .nils)]⟩, []⟩]) (.seq (.region [⟨0, ⟨(some 10), none, (.pure .id), [(.tmp 0)]⟩, []⟩, ⟨0, ⟨(some 11), none, (.pure .id), [(.tmp 1)]⟩, []⟩, ⟨0, ⟨(some 12), none, (.pure (.slice 2 true false false)), [(.tmp 10), (.tmp 11)]⟩, []⟩]) (.seq (.region [⟨0, ⟨(some 13), none, (.pure .id), [(.tmp 2)]⟩, []⟩, ⟨0, ⟨(some 14), none, (.pure .len), [(.tmp 13)]⟩, []⟩, ⟨0, ⟨(some 7), none, (.pure .id), [(.tmp 14)]⟩, []⟩]) (.seq (.seq (.region [⟨0, ⟨(some 15), none, (.pure .id), [(.tmp 7)]⟩, []⟩, ⟨0, ⟨(some 16), none, (.pure (.bin .eql .none)), [(.tmp 15), (.const (.int .i64 0))]⟩, []⟩]) (.cond (.tmp 16) (.seq (.region [⟨0, ⟨(some 17), none, (.pure .id), [(.tmp 0)]⟩, []⟩, ⟨0, ⟨(some 6), none, (.pure .id), [(.tmp 17)]⟩, []⟩]) .ret) .skip)) (.seq (.region [⟨0, ⟨(some 18), none, (.pure .id), [(.tmp 0)]⟩, []⟩, ⟨0, ⟨(some 19), none, (.pure .len), [(.tmp 18)]⟩, []⟩, ⟨0, ⟨(some 8), none, (.pure .id), [(.tmp 19)]⟩, []⟩]) (.seq (.seq (.region [⟨0, ⟨(some 20), none, (.pure .id), [(.tmp 1)]⟩, []⟩, ⟨0, ⟨(some 21), none, (.pure .id), [(.tmp 8)]⟩, []⟩, ⟨0, ⟨(some 22), none, (.pure (.bin .eql .none)), [(.tmp 20), (.tmp 21)]⟩, []⟩]) (.cond (.tmp 22) (.seq (.region [⟨0, ⟨(some 23), none, (.pure .id), [(.tmp 0)]⟩, []⟩, ⟨0, ⟨(some 24), none, (.pure .id), [(.tmp 2)]⟩, []⟩, ⟨0, ⟨(some 25), none, (.imp (.append 2 32)), [(.tmp 23), (.tmp 24)]⟩, []⟩, ⟨0, ⟨(some 6), none, (.pure .id), [(.tmp 25)]⟩, []⟩]) .ret) .skip)) (.seq (.seq (.region [⟨0, ⟨(some 26), none, (.pure .id), [(.tmp 8)]⟩, []⟩, ⟨0, ⟨(some 27), none, (.pure .id), [(.tmp 7)]⟩, []⟩, ⟨0, ⟨(some 28), none, (.pure (.bin .add .none)), [(.tmp 26), (.tmp 27)]⟩, []⟩, ⟨0, ⟨(some 29), none, (.pure .id), [(.tmp 0)]⟩, []⟩, ⟨0, ⟨(some 30), none, (.pure .cap), [(.tmp 29)]⟩, []⟩, ⟨0, ⟨(some 31), none, (.pure (.bin .gtr .none)), [(.tmp 28), (.tmp 30)]⟩, []⟩]) (.cond (.tmp 31) (.seq (.region [⟨0, ⟨(some 32), none, (.pure .id), [(.tmp 0)]⟩, []⟩, ⟨0, ⟨(some 33), none, (.pure .id), [(.tmp 1)]⟩, []⟩, ⟨0, ⟨(some 34), none, (.pure (.slice 2 false true false)), [(.tmp 32), (.tmp 33)]⟩, []⟩, ⟨0, ⟨(some 35), none, (.pure .id), [(.tmp 8)]⟩, []⟩, ⟨0, ⟨(some 36), none, (.pure .id), [(.tmp 7)]⟩, []⟩, ⟨0, ⟨(some 37), none, (.pure (.bin .add .none)), [(.tmp 35), (.tmp 36)]⟩, []⟩, ⟨0, ⟨(some 38), none, (.pure .id), [(.tmp 1)]⟩, []⟩, ⟨0, ⟨(some 39), none, (.pure (.bin .sub .none)), [(.tmp 37), (.tmp 38)]⟩, []⟩, ⟨0, ⟨(some 40), none, (.imp (.appendz 2 32 [(.bool false), .nils])), [(.tmp 34), (.tmp 39)]⟩, []⟩, ⟨0, ⟨(some 9), none, (.pure .id), [(.tmp 40)]⟩, []⟩]) (.seq (.region [⟨0, ⟨(some 41), none, (.pure .id), [(.tmp 9)]⟩, []⟩, ⟨0, ⟨(some 42), none, (.pure .id), [(.tmp 1)]⟩, []⟩, ⟨0, ⟨(some 43), none, (.pure (.slice 2 true false false)), [(.tmp 41), (.tmp 42)]⟩, []⟩, ⟨0, ⟨(some 44), none, (.pure .id), [(.tmp 2)]⟩, []⟩, ⟨0, ⟨(some 45), none, (.imp (.copy 2)), [(.tmp 43), (.tmp 44)]⟩, []⟩]) (.seq (.region [⟨0, ⟨(some 46), none, (.pure .id), [(.tmp 9)]⟩, []⟩, ⟨1, ⟨(some 47), none, (.pure .id), [(.tmp 1)]⟩, []⟩, ⟨2, ⟨(some 48), none, (.pure .id), [(.tmp 7)]⟩, []⟩, ⟨3, ⟨(some 49), none, (.pure (.bin .add .none)), [(.tmp 47), (.tmp 48)]⟩, []⟩, ⟨4, ⟨(some 50), none, (.pure (.slice 2 true false false)), [(.tmp 46), (.tmp 49)]⟩, []⟩, ⟨5, ⟨(some 51), none, (.pure .id), [(.tmp 0)]⟩, []⟩, ⟨6, ⟨(some 52), none, (.pure .id), [(.tmp 1)]⟩, []⟩, ⟨7, ⟨(some 53), none, (.pure (.slice 2 true false false)), [(.tmp 51), (.tmp 52)]⟩, []⟩, ⟨8, ⟨(some 54), none, (.imp (.copy 2)), [(.tmp 50), (.tmp 53)]⟩, []⟩]) (.seq (.region [⟨0, ⟨(some 55), none, (.pure .id), [(.tmp 9)]⟩, []⟩, ⟨0, ⟨(some 6), none, (.pure .id), [(.tmp 55)]⟩, []⟩]) .ret)))) .skip)) (.seq (.region [⟨0, ⟨(some 56), none, (.pure .id), [(.tmp 0)]⟩, []⟩, ⟨0, ⟨(some 57), none, (.pure .id), [(.tmp 8)]⟩, []⟩, ⟨0, ⟨(some 58), none, (.pure .id), [(.tmp 7)]⟩, []⟩, ⟨0, ⟨(some 59), none, (.pure (.bin .add .none)), [(.tmp 57), (.tmp 58)]⟩, []⟩, ⟨0, ⟨(some 60), none, (.pure (.slice 2 false true false)), [(.tmp 56), (.tmp 59)]⟩, []⟩, ⟨0, ⟨(some 0), none, (.pure .id), [(.tmp 60)]⟩, []⟩]) (.seq (.seq (.region [⟨0, ⟨(some 61), none, (.pure .id), [(.tmp 2)]⟩, []⟩, ⟨0, ⟨(some 62), none, (.pure .id), [(.tmp 0)]⟩, []⟩, ⟨0, ⟨(some 63), none, (.pure .id), [(.tmp 1)]⟩, []⟩, ⟨0, ⟨(some 64), none, (.pure .id), [(.tmp 7)]⟩, []⟩, ⟨0, ⟨(some 65), none, (.pure (.bin .add .none)), [(.tmp 63), (.tmp 64)]⟩, []⟩, ⟨0, ⟨(some 66), none, (.pure (.slice 2 true false false)), [(.tmp 62), (.tmp 65)]⟩, []⟩, ⟨0, ⟨(some 67), none, (.xcall F_slices_overlaps_api_Block), [(.tmp 61), (.tmp 66)]⟩, []⟩, ⟨0, ⟨(some 68), none, (.pure (.un .not)), [(.tmp 67)]⟩, []⟩]) (.cond (.tmp 68) (.seq (.region [⟨0, ⟨(some 69), none, (.pure .id), [(.tmp 0)]⟩, []⟩, ⟨1, ⟨(some 70), none, (.pure .id), [(.tmp 1)]⟩, []⟩, ⟨2, ⟨(some 71), none, (.pure .id), [(.tmp 7)]⟩, []⟩, ⟨3, ⟨(some 72), none, (.pure (.bin .add .none)), [(.tmp 70), (.tmp 71)]⟩, []⟩, ⟨4, ⟨(some 73), none, (.pure (.slice 2 true false false)), [(.tmp 69), (.tmp 72)]⟩, []⟩, ⟨5, ⟨(some 74), none, (.pure .id), [(.tmp 0)]⟩, []⟩, ⟨6, ⟨(some 75), none, (.pure .id), [(.tmp 1)]⟩, []⟩, ⟨7, ⟨(some 76), none, (.pure (.slice 2 true false false)), [(.tmp 74), (.tmp 75)]⟩, []⟩, ⟨8, ⟨(some 77), none, (.imp (.copy 2)), [(.tmp 73), (.tmp 76)]⟩, []⟩]) (.seq (.region [⟨0, ⟨(some 78), none, (.pure .id), [(.tmp 0)]⟩, []⟩, ⟨0, ⟨(some 79), none, (.pure .id), [(.tmp 1)]⟩, []⟩, ⟨0, ⟨(some 80), none, (.pure (.slice 2 true false false)), [(.tmp 78), (.tmp 79)]⟩, []⟩, ⟨0, ⟨(some 81), none, (.pure .id), [(.tmp 2)]⟩, []⟩, ⟨0, ⟨(some 82), none, (.imp (.copy 2)), [(.tmp 80), (.tmp 81)]⟩, []⟩]) (.seq (.region [⟨0, ⟨(some 83), none, (.pure .id), [(.tmp 0)]⟩, []⟩, ⟨0, ⟨(some 6), none, (.pure .id), [(.tmp 83)]⟩, []⟩]) .ret))) .skip)) (.seq (.region [⟨0, ⟨(some 84), none, (.pure .id), [(.tmp 0)]⟩, []⟩, ⟨0, ⟨(some 85), none, (.pure .id), [(.tmp 8)]⟩, []⟩, ⟨0, ⟨(some 86), none, (.pure (.slice 2 true false false)), [(.tmp 84), (.tmp 85)]⟩, []⟩, ⟨0, ⟨(some 87), none, (.pure .id), [(.tmp 2)]⟩, []⟩, ⟨0, ⟨(some 88), none, (.imp (.copy 2)), [(.tmp 86), (.tmp 87)]⟩, []⟩]) (.seq (.region [⟨0, ⟨(some 89), none, (.pure .id), [(.tmp 0)]⟩, []⟩, ⟨0, ⟨(some 90), none, (.pure .id), [(.tmp 1)]⟩, []⟩, ⟨0, ⟨(some 91), none, (.pure (.slice 2 true false false)), [(.tmp 89), (.tmp 90)]⟩, []⟩, ⟨0, ⟨(some 92), none, (.pure .id), [(.tmp 7)]⟩, []⟩, ⟨0, ⟨(some 93), none, (.call F_slices_rotateRight_api_Block), [(.tmp 91), (.tmp 92)]⟩, []⟩]) (.seq (.region [⟨0, ⟨(some 94), none, (.pure .id), [(.tmp 0)]⟩, []⟩, ⟨0, ⟨(some 6), none, (.pure .id), [(.tmp 94)]⟩, []⟩]) .ret))))))))))))⟩
theorem c_slices_Insert_api_Block_api_Block : compF Try.prog Try.f45 = some G_slices_Insert_api_Block_api_Block := by kernel_rfl
theorem gc_slices_Insert_api_Block_api_Block {args : List DV} {σ : GS} {Post : DV → GS → Prop} (h : @exB Try.prog ⟨G_slices_Insert_api_Block_api_Block.body⟩ (genv0 args G_slices_Insert_api_Block_api_Block.ntmps) σ ⟨@gretB G_slices_Insert_api_Block_api_Block.results ⟨Post⟩⟩) : GCall Try.prog F_slices_Insert_api_Block_api_Block args σ Post := gcall_ofB seatfollows Try.func45 (by kernel_rfl) c_slices_Insert_api_Block_api_Block h
end Go.Gh
namespace Go.Gh
open Go.RowKit Go.Proofs
set_option linter.unusedVariables false
set_option linter.unusedSimpArgs false
set_option maxRecDepth 100000
theorem slice_loC {id off L c k sz : Nat} (h : k ≤ L) (h2 : L ≤ c) : gpure (.slice sz true false false) [.slice id off L sz (some c), .int .i64 (k : Int)] = some (.slice id (off + k * sz) (L - k) sz (some (c - k))) := by
  simp [gpure, gslice, gbm, gbh, gbl, gbound, h, h2]
theorem slice_hiC {id off L c k sz : Nat} (h : k ≤ c) : gpure (.slice sz false true false) [.slice id off L sz (some c), .int .i64 (k : Int)] = some (.slice id off k sz (some c)) := by
  simp [gpure, gslice, gbm, gbh, gbl, gbound, h]
theorem slice_loN {id off L k sz : Nat} (h : k ≤ L) : gpure (.slice sz true false false) [.slice id off L sz none, .int .i64 (k : Int)] = some (.slice id (off + k * sz) (L - k) sz none) := by
  simp [gpure, gslice, gbm, gbh, gbl, gbound, h]
theorem gzeros_len (z : List DV) (hz : z ≠ []) (m : Nat) : (gzeros z m).length = m := by
  unfold gzeros
  split
  · simp
  · simp
theorem gread_at {id off len sz : Nat} {cap : Option Nat} {σ : GS} {ro : Bool} {cs : List DV} (h : σ[id]? = some (.row ro cs)) (hl : off + len * sz ≤ cs.length) (h0 : 0 < len) : gread sz (.slice id off len sz cap) σ = some ((cs.drop off).take (len * sz)) := by
  simp only [gread]
  rw [if_neg (by omega), if_pos trivial, h]
  simp only
  rw [if_pos hl]
theorem gread_at0 {id off sz : Nat} {cap : Option Nat} {σ : GS} : gread sz (.slice id off 0 sz cap) σ = some [] := by simp [gread]
@[simp] theorem gp_cap_some (id off n sz c : Nat) : gpure .cap [.slice id off n sz (some c)] = some (.int .i64 c) := rfl
set_option maxHeartbeats 2000000 in
theorem insert_run {id id2 n i : Nat} {cs : List DV} {x y : DV} {σ : GS} (h1 : σ[id]? = some (.row false cs)) (hl : cs.length = n * 2) (h2 : σ[id2]? = some (.row false [x, y])) (hne : id ≠ id2) (hi : i < n) (hn : n < 2 ^ 40) (hf : cs.all DV.flat = true) (hx : x.flat = true) (hy : y.flat = true) :
    GCall Try.prog F_slices_Insert_api_Block_api_Block [.slice id 0 n 2 none, .int .i64 i, .slice id2 0 1 2 (some 1)] σ fun v σ' => v = .slice σ.length 0 (n + 1) 2 none ∧ σ' = σ.set id .dead ++ [.row false (cs.take (i * 2) ++ [x, y] ++ cs.drop (i * 2))] := by
  have hid := (List.getElem?_eq_some_iff.1 h1).1
  have hid2 := (List.getElem?_eq_some_iff.1 h2).1
  refine GCall.capsplit h1 (by simpa using hl.symm) fun c hc => ?_
  obtain ⟨A, hA⟩ : ∃ A, cs.take (i * 2) = A := ⟨_, rfl⟩
  obtain ⟨D, hD⟩ : ∃ D, cs.drop (i * 2) = D := ⟨_, rfl⟩
  have hAl : A.length = i * 2 := by rw [← hA]; simp; omega
  have hDl : D.length = (n - i) * 2 := by rw [← hD]; simp; omega
  have hAD : cs = A ++ D := by rw [← hA, ← hD, List.take_append_drop]
  have hDf : D.all DV.flat = true := by
    rw [List.all_eq_true] at hf ⊢
    intro d hd; exact hf d (by rw [hAD]; exact List.mem_append_right _ hd)
  have hxy : [x, y].all DV.flat = true := by simp [hx, hy]
  have w1 : IntKind.i64.wrap ((n : Int) + 1) = n + 1 := by rw [wrap_small] <;> omega
  have w2 : IntKind.i64.wrap ((i : Int) + 1) = i + 1 := by rw [wrap_small] <;> omega
  have w3 : IntKind.i64.wrap ((n : Int) + 1 - i) = n + 1 - i := by rw [wrap_small] <;> omega
  have hin : ¬ ((i : Int) = n) := by omega
  have hin2 : ¬ (i = n) := by omega
  rcases Nat.lt_or_ge n c with hlt | hge
  · obtain ⟨W, hW⟩ : ∃ W, List.replicate ((c - n) * 2) DV.any = W := ⟨_, rfl⟩
    have hWl : W.length = (c - n) * 2 := by rw [← hW]; simp
    rw [hW]
    obtain ⟨τ, hτ⟩ : ∃ τ, σ.set id (.row false (cs ++ W)) = τ := ⟨_, rfl⟩
    have hτl : τ.length = σ.length := by rw [← hτ]; simp
    have t1 : τ[id]? = some (.row false (A ++ D ++ W)) := by rw [← hτ, List.getElem?_set_self hid, hAD]
    have t2 : τ[id2]? = some (.row false [x, y]) := by rw [← hτ, List.getElem?_set_ne hne]; exact h2
    obtain ⟨R, hR⟩ : ∃ R, (A ++ D ++ W).drop ((i + 1) * 2 + D.length) = R := ⟨_, rfl⟩
    obtain ⟨U, hU⟩ : ∃ U, (D ++ W).take 2 = U := ⟨_, rfl⟩
    have hUl : U.length = 2 := by rw [← hU]; simp; omega
    rw [hτ]
    refine GCall.conv (Post0 := fun v σ' => v = .slice id 0 (n + 1) 2 (some c) ∧ σ' = τ.set id (.row false (A ++ [x, y] ++ D ++ R))) ?_ ?_
    · refine gc_slices_Insert_api_Block_api_Block ?_
      have gt : ¬ ((c : Int) < (n : Int) + 1) := by omega
      have s1 := slice_loC (id := id) (off := 0) (L := n) (c := c) (k := i) (sz := 2) (by omega) (by omega)
      have s2 := slice_hiC (id := id) (off := 0) (L := n) (c := c) (k := n + 1) (sz := 2) (by omega)
      have s3 := slice_loC (id := id) (off := 0) (L := n + 1) (c := c) (k := i + 1) (sz := 2) (by omega) (by omega)
      have s4 := slice_loC (id := id) (off := 0) (L := n + 1) (c := c) (k := i) (sz := 2) (by omega) (by omega)
      simp at s1 s2 s3 s4
      have rd1 : gread 2 (.slice id (i * 2) (n + 1 - i) 2 (some (c - i))) τ = some (D ++ W.take 2) := by
        rw [gread_at t1 (by simp only [List.length_append, hAl, hDl, hWl]; omega) (by omega), List.append_assoc, ← hAl, List.drop_left]
        rw [show (n + 1 - i) * 2 = D.length + 2 by omega, List.take_append]
        rw [List.take_of_length_le (by omega), show D.length + 2 - D.length = 2 by omega]
      have cp1 : gimp (.copy 2) [.slice id ((i + 1) * 2) (n - i) 2 (some (c - (i + 1))), .slice id (i * 2) (n + 1 - i) 2 (some (c - i))] τ = some (.int .i64 ((n - i : Nat) : Int), τ.set id (.row false (A ++ U ++ (D ++ R)))) := by
        have m1 : min (n + 1 - i) (n - i) = n - i := by omega
        have ht : (D ++ W.take 2).take ((n - i) * 2) = D := by rw [← hDl, List.take_left]
        have ho : over (A ++ D ++ W) ((i + 1) * 2) D = A ++ U ++ (D ++ R) := by
          unfold over
          rw [hR]
          have : (A ++ D ++ W).take ((i + 1) * 2) = A ++ U := by
            rw [List.append_assoc, List.take_append, List.take_of_length_le (by omega), show (i + 1) * 2 - A.length = 2 by omega, hU]
          rw [this]
        simp only [gimp, rd1, glen, m1, t1, ht]
        rw [if_neg (by omega), if_pos trivial, if_pos ⟨by simp only [List.length_append, hAl, hDl, hWl]; omega, hDf⟩, ho]
      have t3 : (τ.set id (.row false (A ++ U ++ (D ++ R))))[id]? = some (.row false (A ++ U ++ (D ++ R))) := List.getElem?_set_self (by omega)
      have rd2 : gread 2 (.slice id2 0 1 2 (some 1)) (τ.set id (.row false (A ++ U ++ (D ++ R)))) = some [x, y] := by
        rw [gread_at (by rw [List.getElem?_set_ne hne]; exact t2) (by simp) (by omega)]; rfl
      have cp2 : gimp (.copy 2) [.slice id (i * 2) (n + 1 - i) 2 (some (c - i)), .slice id2 0 1 2 (some 1)] (τ.set id (.row false (A ++ U ++ (D ++ R)))) = some (.int .i64 1, τ.set id (.row false (A ++ [x, y] ++ D ++ R))) := by
        have m1 : min 1 (n + 1 - i) = 1 := by omega
        have ho : over (A ++ U ++ (D ++ R)) (i * 2) [x, y] = A ++ [x, y] ++ D ++ R := by
          rw [List.append_assoc, ← hAl, over_end]
          have : (U ++ (D ++ R)).drop [x, y].length = D ++ R := by
            rw [show [x, y].length = U.length by rw [hUl]; rfl, List.drop_left]
          rw [this]; simp
        simp only [gimp, rd2, glen, m1, t3]
        rw [if_neg (by decide), if_pos trivial, if_pos ⟨by simp only [List.length_append, hAl, hUl, hDl]; omega, by simpa using hxy⟩]
        simp only [show ([x, y] : List DV).take (1 * 2) = [x, y] from rfl, ho, List.set_set]
        rfl
      simp [G_slices_Insert_api_Block_api_Block, genv0, List.replicate, s1, s2, hin, hin2, w1, w2, w3, gt]
      have r1 : ∃ r rs, A ++ D ++ W = r :: rs := by
        cases hh : A ++ D ++ W with
        | nil => have := congrArg List.length hh; simp [hAl, hDl] at this; omega
        | cons r rs => exact ⟨r, rs, rfl⟩
      obtain ⟨r, rs, hrs⟩ := r1
      simp [s3]
      refine ovl_ok (P := Try.prog) (size := 2) (tS := 22) (tR := 4) (e := 44) Try.func71 (by kernel_rfl) (by kernel_rfl) (by kernel_rfl) (by kernel_rfl) (by kernel_rfl) (by kernel_rfl) t2 (by rw [hrs] at t1; exact t1) hne.symm (by omega) (by omega) ?_
      simp only [List.append_assoc, List.cons_append, List.nil_append] at cp1 cp2
      simp [w2, s3, s4, cp1, cp2]
    · rintro N w0 ρ σ' w v rv hr hv ⟨rfl, rfl⟩ hle
      obtain ⟨L, a, c', hL, rfl, k1, k2, k3, k4⟩ := hv.slice_inv
      have := k3 c rfl
      subst this
      have hmv := hr.move hL (List.getElem?_set_self (by omega)) 0 (by omega) ((n + 1) * 2) (by omega)
      refine ⟨.slice σ.length 0 (n + 1) 2 none, _, _, hmv, ?_, ?_, by simp [hτl], rfl, ?_⟩
      · refine ⟨⟨fun j hj => ?_, fun _ _ _ h => h⟩, fun j M hM => ?_, Nat.le_refl _, fun _ _ _ => rfl, fun _ r hr => ⟨r, hr, rfl⟩⟩
        · exact Ren.put_other _ _ (by simp [hτl]; omega)
        · by_cases hj : j = (τ.set id (.row false (A ++ [x, y] ++ D ++ R))).length
          · subst hj
            rw [Ren.put_same] at hM; cases hM
            exact .inl ⟨id, L, hL, rfl⟩
          · rw [Ren.put_other _ _ hj] at hM; exact .inl ⟨j, M, hM, rfl⟩
      · simp only [VR]
        refine ⟨_, a, c', by rw [show σ.length = (τ.set id (.row false (A ++ [x, y] ++ D ++ R))).length by simp [hτl]]; exact Ren.put_same _ _ _, rfl, k1, fun h => by simpa using k2 h, (fun c' h => by cases h), by simpa using k4⟩
      · rw [List.set_set, ← hτ, List.set_set, hA, hD, List.drop_zero]
        congr 3
        rw [List.take_append_of_le_length (by simp [hAl, hDl]; omega), List.take_of_length_le (by simp [hAl, hDl]; omega)]
  · have hcn : c = n := by omega
    subst hcn
    have hset : σ.set id (.row false (cs ++ List.replicate ((c - c) * 2) .any)) = σ := by
      apply List.ext_getElem?
      intro j
      by_cases hj : j = id
      · subst hj; rw [List.getElem?_set_self hid, h1]; simp
      · rw [List.getElem?_set_ne (fun e => hj e.symm)]
    rw [hset]
    obtain ⟨Z, hZ⟩ : ∃ Z, gzeros [DV.bool false, DV.nils] ((c + 1 - i) * 2) = Z := ⟨_, rfl⟩
    have hZl : Z.length = (c + 1 - i) * 2 := by rw [← hZ]; exact gzeros_len _ (by simp) _
    refine GCall.conv (Post0 := fun v σ' => v = .slice σ.length 0 (c + 1) 2 none ∧ σ' = σ ++ [.row false (A ++ [x, y] ++ D)]) ?_ ?_
    · refine gc_slices_Insert_api_Block_api_Block ?_
      have s1 := slice_loC (id := id) (off := 0) (L := c) (c := c) (k := i) (sz := 2) (by omega) (Nat.le_refl _)
      have s2 := slice_hiC (id := id) (off := 0) (L := c) (c := c) (k := i) (sz := 2) (by omega)
      have gt : ((c : Int) < c + 1) := by omega
      simp at s1 s2
      have w4 : IntKind.i64.wrap ((i : Int) + 1) = ((i + 1 : Nat) : Int) := by rw [w2]; omega
      have w5 : ((c : Int) + 1 - i) = ((c + 1 - i : Nat) : Int) := by omega
      have hgo : growOk (c + 1) 32 = true := by simp [growOk]; omega
      have rd1 : gread 2 (.slice id 0 i 2 (some c)) σ = some A := by
        by_cases h0 : i = 0
        · subst h0
          rw [gread_at0]; simp at hA; rw [← hA]
        · rw [gread_at h1 (by omega) (by omega)]; simp [hA]
      have haz : gimp (.appendz 2 32 [.bool false, .nils]) [.slice id 0 i 2 (some c), .int .i64 ((c : Int) + 1 - i)] σ = some (.slice σ.length 0 (c + 1) 2 none, σ ++ [.row false (A ++ Z)]) := by
        have e1 : (0 : Int) < (c : Int) + 1 - i := by omega
        have e2 : i + ((c : Int) + 1 - i).toNat = c + 1 := by omega
        have e3 : ((c : Int) + 1 - i).toNat * 2 = (c + 1 - i) * 2 := by omega
        simp only [gimp]
        rw [if_pos ⟨trivial, e1, by omega, by rw [e2]; exact hgo⟩, rd1]
        simp only
        rw [e2, e3, hZ]
      have hrow1 : (σ ++ [GObj.row false (A ++ Z)])[σ.length]? = some (.row false (A ++ Z)) := by simp
      have s3 := slice_loN (id := σ.length) (off := 0) (L := c + 1) (k := i) (sz := 2) (by omega)
      have s4 := slice_loN (id := σ.length) (off := 0) (L := c + 1) (k := i + 1) (sz := 2) (by omega)
      simp at s3 s4
      have rd2 : gread 2 (.slice id2 0 1 2 (some 1)) (σ ++ [GObj.row false (A ++ Z)]) = some [x, y] := by
        rw [gread_at (getE_append h2) (by simp) (by omega)]; rfl
      have cp1 : gimp (.copy 2) [.slice σ.length (i * 2) (c + 1 - i) 2 none, .slice id2 0 1 2 (some 1)] (σ ++ [.row false (A ++ Z)]) = some (.int .i64 1, σ ++ [.row false (A ++ [x, y] ++ Z.drop 2)]) := by
        have m1 : min 1 (c + 1 - i) = 1 := by omega
        have ho : over (A ++ Z) (i * 2) [x, y] = A ++ [x, y] ++ Z.drop 2 := by rw [← hAl]; exact over_end
        simp only [gimp, rd2, glen, m1, hrow1]
        rw [if_neg (by decide), if_pos trivial, if_pos ⟨by simp only [List.length_append, hAl, hZl]; omega, by simpa using hxy⟩]
        simp only [show ([x, y] : List DV).take (1 * 2) = [x, y] from rfl, ho]
        rw [List.set_append_right _ _ (Nat.le_refl _)]
        simp
      have hrow2 : (σ ++ [GObj.row false (A ++ [x, y] ++ Z.drop 2)])[σ.length]? = some (.row false (A ++ [x, y] ++ Z.drop 2)) := by simp
      have rd3 : gread 2 (.slice id (i * 2) (c - i) 2 (some (c - i))) (σ ++ [GObj.row false (A ++ [x, y] ++ Z.drop 2)]) = some D := by
        rw [gread_at (getE_append h1) (by omega) (by omega), hD, List.take_of_length_le (by omega)]
      have cp2 : gimp (.copy 2) [.slice σ.length ((i + 1) * 2) (c - i) 2 none, .slice id (i * 2) (c - i) 2 (some (c - i))] (σ ++ [.row false (A ++ [x, y] ++ Z.drop 2)]) = some (.int .i64 ((c - i : Nat) : Int), σ ++ [.row false (A ++ [x, y] ++ D)]) := by
        have ho : over (A ++ [x, y] ++ Z.drop 2) ((i + 1) * 2) D = A ++ [x, y] ++ D := by
          have e : (i + 1) * 2 = (A ++ [x, y]).length := by simp [hAl]; omega
          rw [e, over_end]
          have : (Z.drop 2).drop D.length = [] := by rw [List.drop_drop, List.drop_eq_nil_of_le (by omega)]
          rw [this, List.append_nil]
        simp only [gimp, rd3, glen, Nat.min_self, hrow2]
        rw [if_neg (by omega), if_pos trivial, if_pos ⟨by simp [hAl, hZl]; omega, by rw [List.take_of_length_le (by omega)]; exact hDf⟩]
        rw [List.take_of_length_le (show D.length ≤ (c - i) * 2 by omega), ho]
        simp
      simp only [List.append_assoc, List.cons_append, List.nil_append] at cp1 cp2
      simp [G_slices_Insert_api_Block_api_Block, genv0, List.replicate, s1, s2, hin, hin2, w1, w2, w3, gt, haz, s3, cp1, s4, cp2]
    · rintro N w0 ρ σ' w v rv hr hv ⟨rfl, rfl⟩ hle
      refine ⟨_, _, ρ, hr.kill id, Ext.refl _ _ _, hv, by simp, rfl, ?_⟩
      rw [List.set_append_left _ _ hid, hA, hD]
end Go.Gh
namespace Go.Gh
open Go.RowKit Go.Proofs
set_option linter.unusedVariables false
set_option linter.unusedSimpArgs false
set_option maxRecDepth 100000
/-- What slices.Insert does to a copy of a prefix, for the evaluator. -/
noncomputable def insH (args : List DV) (σ : HT) : Option (DV × HT) :=
  match args with
  | [.slice id off n sz none, .int k i, .slice id2 off2 m sz2 (some c2)] => match σ.get id, σ.get id2 with
    | some (.obj (.row false cs)), some (.obj (.row false [x, y])) =>
      if k = .i64 ∧ off = 0 ∧ sz = 2 ∧ off2 = 0 ∧ m = 1 ∧ sz2 = 2 ∧ c2 = 1 ∧ id ≠ id2 ∧ 0 ≤ i ∧ i.toNat < n ∧ n < 1000000 ∧ cs.length = n * 2 ∧ cs.all DV.flat = true ∧ x.flat = true ∧ y.flat = true then
        match (σ.set id (.obj .dead)).push (.obj (.row false (cs.take (i.toNat * 2) ++ [x, y] ++ cs.drop (i.toNat * 2)))) with
        | some σ' => some (.slice σ.n 0 (n + 1) 2 none, σ')
        | none => none
      else none
    | _, _ => none
  | _ => none
noncomputable def insX (f : FuncId) (args : List DV) (σ : HT) : Option (DV × HT) := if f = F_slices_Insert_api_Block_api_Block then insH args σ else none
theorem insX_ok (f : FuncId) (args : List DV) (σ : HT) (v : DV) (σ' : HT) (h : insX f args σ = some (v, σ')) : GCall Try.prog f args (den σ) fun a b => a = v ∧ b = den σ' := by
  unfold insX at h
  split at h
  rotate_left
  · cases h
  rename_i hf
  subst hf
  unfold insH at h
  split at h
  rotate_left
  · cases h
  rename_i id off n sz k i id2 off2 m sz2 c2
  split at h
  rotate_left
  · cases h
  rename_i cs x y g1 g2
  split at h
  rotate_left
  · cases h
  rename_i hc
  obtain ⟨rfl, rfl, rfl, rfl, rfl, rfl, rfl, hne, hi0, hin, hn, hl, hf, hx, hy⟩ := hc
  split at h
  rotate_left
  · cases h
  rename_i σ1 hp
  cases h
  obtain ⟨p1, p2⟩ := den_push hp
  rw [den_set] at p1 p2
  have hlen : σ.n = (den σ).length := by
    have e : (σ.set id (.obj .dead)).n = σ.n := by unfold HT.set; split <;> rfl
    rw [← e, p2]; simp
  obtain ⟨j, rfl⟩ : ∃ j : Nat, i = j := ⟨i.toNat, by omega⟩
  simp only [Int.toNat_natCast] at hin p1 ⊢
  refine (insert_run (den_at g1) hl (den_at g2) hne hin (by omega) hf hx hy).mono ?_
  rintro a b ⟨rfl, rfl⟩
  exact ⟨by rw [hlen], by rw [p1]; rfl⟩
/-- A closed call answers true, with the oracle's help. -/
noncomputable def sayTrueX (P : Program) (X : FuncId → List DV → HT → Option (DV × HT)) (n : Nat) (f : FuncId) (args : List DV) : Bool :=
  match (evAllX P (tabOf P) X n).call f args ⟨0, .e⟩ with
  | some (.bool true, _) => true
  | _ => false
theorem sayTrueX_ok {P : Program} (hm : P.follows .mixedOrders = true) {X : FuncId → List DV → HT → Option (DV × HT)} (hX : ∀ f args σ v σ', X f args σ = some (v, σ') → GCall P f args (den σ) fun a b => a = v ∧ b = den σ') {n : Nat} {f : FuncId} {args : List DV} (h : sayTrueX P X n f args = true) : GCall P f args [] fun v _ => v = .bool true := by
  unfold sayTrueX at h
  split at h
  · rename_i s he
    have := (evAllX_ok hm (tabOf_ok P) hX n).call f args ⟨0, .e⟩ _ _ he
    rw [show den ⟨0, .e⟩ = [] by simp [den]] at this
    exact this.mono fun v σ' hh => hh.1
  · cases h
end Go.Gh
namespace Go.Gh
open Go.Proofs
set_option maxRecDepth 100000
theorem head_run : sayTrueX Try.prog insX 60 8 [] = true := by kernel_rfl
theorem head_ok {σ : GS} {Post : DV → GS → Prop} (k : Post (.bool true) σ) : GCall Try.prog 8 [] σ Post :=
  GCall.closed (sayTrueX_ok seatfollows insX_ok head_run) k
end Go.Gh
namespace Go.Gh
open Go.Proofs
abbrev F_skolemlaw03_wide : Nat := 7
abbrev F_skolemlaw03_head : Nat := 8
abbrev F_skolemref03_Ints : Nat := 18
noncomputable abbrev G_skolemlaw03_wide : GFun := ⟨45, [(.tmp 6)], (.seq (.region [⟨0, ⟨(some 6), none, (.pure .id), [(.const (.bool false))]⟩, []⟩]) (.seq (.region [⟨0, ⟨(some 10), none, (.pure .id), [(.tmp 0)]⟩, []⟩, ⟨0, ⟨(some 11), none, (.pure .len), [(.tmp 10)]⟩, []⟩, ⟨0, ⟨(some 12), none, (.pure .id), [(.tmp 1)]⟩, []⟩, ⟨0, ⟨(some 13), none, (.pure .len), [(.tmp 12)]⟩, []⟩, ⟨0, ⟨(some 14), none, (.pure (.bin .add .none)), [(.tmp 11), (.tmp 13)]⟩, []⟩, ⟨0, ⟨(some 7), none, (.pure .id), [(.tmp 14)]⟩, []⟩]) (.seq (.seq (.region [⟨0, ⟨(some 8), none, (.pure .id), [(.const (.int .i64 0))]⟩, []⟩]) (.block 0 (.loop (.seq (.seq (.region [⟨0, ⟨(some 15), none, (.pure .id), [(.tmp 8)]⟩, []⟩, ⟨0, ⟨(some 16), none, (.pure .id), [(.tmp 0)]⟩, []⟩, ⟨0, ⟨(some 17), none, (.pure .len), [(.tmp 16)]⟩, []⟩, ⟨0, ⟨(some 18), none, (.pure (.bin .lss .none)), [(.tmp 15), (.tmp 17)]⟩, []⟩]) (.cond (.tmp 18) .skip (.exit 0))) (.seq (.block 1 (.region [⟨0, ⟨(some 21), none, (.pure .id), [(.tmp 7)]⟩, []⟩, ⟨0, ⟨(some 22), none, (.pure .id), [(.tmp 0)]⟩, []⟩, ⟨0, ⟨(some 23), none, (.pure .id), [(.tmp 8)]⟩, []⟩, ⟨0, ⟨(some 24), none, (.pure (.iaddr 2)), [(.tmp 22), (.tmp 23)]⟩, []⟩, ⟨0, ⟨(some 25), none, (.pure (.faddr 1)), [(.tmp 24)]⟩, []⟩, ⟨0, ⟨(some 26), none, (.load (.load 1 false)), [(.tmp 25)]⟩, []⟩, ⟨0, ⟨(some 27), none, (.pure .len), [(.tmp 26)]⟩, []⟩, ⟨0, ⟨(some 28), none, (.pure (.bin .add .none)), [(.tmp 21), (.tmp 27)]⟩, []⟩, ⟨0, ⟨(some 7), none, (.pure .id), [(.tmp 28)]⟩, []⟩])) (.region [⟨0, ⟨(some 19), none, (.pure .id), [(.tmp 8)]⟩, []⟩, ⟨0, ⟨(some 20), none, (.pure (.bin .add .none)), [(.tmp 19), (.const (.int .i64 1))]⟩, []⟩, ⟨0, ⟨(some 8), none, (.pure .id), [(.tmp 20)]⟩, []⟩])))))) (.seq (.seq (.region [⟨0, ⟨(some 9), none, (.pure .id), [(.const (.int .i64 0))]⟩, []⟩]) (.block 2 (.loop (.seq (.seq (.region [⟨0, ⟨(some 29), none, (.pure .id), [(.tmp 9)]⟩, []⟩, ⟨0, ⟨(some 30), none, (.pure .id), [(.tmp 1)]⟩, []⟩, ⟨0, ⟨(some 31), none, (.pure .len), [(.tmp 30)]⟩, []⟩, ⟨0, ⟨(some 32), none, (.pure (.bin .lss .none)), [(.tmp 29), (.tmp 31)]⟩, []⟩]) (.cond (.tmp 32) .skip (.exit 2))) (.seq (.block 3 (.region [⟨0, ⟨(some 35), none, (.pure .id), [(.tmp 7)]⟩, []⟩, ⟨0, ⟨(some 36), none, (.pure .id), [(.tmp 1)]⟩, []⟩, ⟨0, ⟨(some 37), none, (.pure .id), [(.tmp 9)]⟩, []⟩, ⟨0, ⟨(some 38), none, (.pure (.iaddr 1)), [(.tmp 36), (.tmp 37)]⟩, []⟩, ⟨0, ⟨(some 39), none, (.load (.load 1 false)), [(.tmp 38)]⟩, []⟩, ⟨0, ⟨(some 40), none, (.pure .len), [(.tmp 39)]⟩, []⟩, ⟨0, ⟨(some 41), none, (.pure (.bin .add .none)), [(.tmp 35), (.tmp 40)]⟩, []⟩, ⟨0, ⟨(some 7), none, (.pure .id), [(.tmp 41)]⟩, []⟩])) (.region [⟨0, ⟨(some 33), none, (.pure .id), [(.tmp 9)]⟩, []⟩, ⟨0, ⟨(some 34), none, (.pure (.bin .add .none)), [(.tmp 33), (.const (.int .i64 1))]⟩, []⟩, ⟨0, ⟨(some 9), none, (.pure .id), [(.tmp 34)]⟩, []⟩])))))) (.seq (.region [⟨0, ⟨(some 42), none, (.pure .id), [(.tmp 7)]⟩, []⟩, ⟨0, ⟨(some 43), none, (.pure .id), [(.tmp 2)]⟩, []⟩, ⟨0, ⟨(some 44), none, (.pure (.bin .gtr .none)), [(.tmp 42), (.tmp 43)]⟩, []⟩, ⟨0, ⟨(some 6), none, (.pure .id), [(.tmp 44)]⟩, []⟩]) .ret)))))⟩
theorem c_skolemlaw03_wide : compF Try.prog Try.f7 = some G_skolemlaw03_wide := by kernel_rfl
theorem gc_skolemlaw03_wide {args : List DV} {σ : GS} {Post : DV → GS → Prop} (h : @exB Try.prog ⟨G_skolemlaw03_wide.body⟩ (genv0 args G_skolemlaw03_wide.ntmps) σ ⟨@gretB G_skolemlaw03_wide.results ⟨Post⟩⟩) : GCall Try.prog F_skolemlaw03_wide args σ Post := gcall_ofB seatfollows Try.func7 (by kernel_rfl) c_skolemlaw03_wide h
noncomputable abbrev G_skolemref03_Ints : GFun := ⟨26, [(.tmp 4)], (.seq (.region [⟨0, ⟨(some 4), none, (.pure .id), [(.const (.bool false))]⟩, []⟩]) (.seq (.seq (.region [⟨0, ⟨(some 6), none, (.pure .id), [(.tmp 0)]⟩, []⟩, ⟨0, ⟨(some 7), none, (.pure .len), [(.tmp 6)]⟩, []⟩, ⟨0, ⟨(some 8), none, (.pure .id), [(.tmp 1)]⟩, []⟩, ⟨0, ⟨(some 9), none, (.pure .len), [(.tmp 8)]⟩, []⟩, ⟨0, ⟨(some 10), none, (.pure (.bin .neq .none)), [(.tmp 7), (.tmp 9)]⟩, []⟩]) (.cond (.tmp 10) (.seq (.region [⟨0, ⟨(some 4), none, (.pure .id), [(.const (.bool false))]⟩, []⟩]) .ret) .skip)) (.seq (.seq (.region [⟨0, ⟨(some 5), none, (.pure .id), [(.const (.int .i64 0))]⟩, []⟩]) (.block 0 (.loop (.seq (.seq (.region [⟨0, ⟨(some 11), none, (.pure .id), [(.tmp 5)]⟩, []⟩, ⟨0, ⟨(some 12), none, (.pure .id), [(.tmp 0)]⟩, []⟩, ⟨0, ⟨(some 13), none, (.pure .len), [(.tmp 12)]⟩, []⟩, ⟨0, ⟨(some 14), none, (.pure (.bin .lss .none)), [(.tmp 11), (.tmp 13)]⟩, []⟩]) (.cond (.tmp 14) .skip (.exit 0))) (.seq (.block 1 (.seq (.region [⟨0, ⟨(some 17), none, (.pure .id), [(.tmp 0)]⟩, []⟩, ⟨1, ⟨(some 18), none, (.pure .id), [(.tmp 5)]⟩, []⟩, ⟨2, ⟨(some 19), none, (.pure (.iaddr 1)), [(.tmp 17), (.tmp 18)]⟩, []⟩, ⟨3, ⟨(some 20), none, (.load (.load 1 false)), [(.tmp 19)]⟩, []⟩, ⟨4, ⟨(some 21), none, (.pure .id), [(.tmp 1)]⟩, []⟩, ⟨5, ⟨(some 22), none, (.pure .id), [(.tmp 5)]⟩, []⟩, ⟨6, ⟨(some 23), none, (.pure (.iaddr 1)), [(.tmp 21), (.tmp 22)]⟩, []⟩, ⟨7, ⟨(some 24), none, (.load (.load 1 false)), [(.tmp 23)]⟩, []⟩, ⟨8, ⟨(some 25), none, (.pure (.bin .neq .none)), [(.tmp 20), (.tmp 24)]⟩, []⟩]) (.cond (.tmp 25) (.seq (.region [⟨0, ⟨(some 4), none, (.pure .id), [(.const (.bool false))]⟩, []⟩]) .ret) .skip))) (.region [⟨0, ⟨(some 15), none, (.pure .id), [(.tmp 5)]⟩, []⟩, ⟨0, ⟨(some 16), none, (.pure (.bin .add .none)), [(.tmp 15), (.const (.int .i64 1))]⟩, []⟩, ⟨0, ⟨(some 5), none, (.pure .id), [(.tmp 16)]⟩, []⟩])))))) (.seq (.region [⟨0, ⟨(some 4), none, (.pure .id), [(.const (.bool true))]⟩, []⟩]) .ret))))⟩
theorem c_skolemref03_Ints : compF Try.prog Try.f18 = some G_skolemref03_Ints := by kernel_rfl
theorem gc_skolemref03_Ints {args : List DV} {σ : GS} {Post : DV → GS → Prop} (h : @exB Try.prog ⟨G_skolemref03_Ints.body⟩ (genv0 args G_skolemref03_Ints.ntmps) σ ⟨@gretB G_skolemref03_Ints.results ⟨Post⟩⟩) : GCall Try.prog F_skolemref03_Ints args σ Post := gcall_ofB seatfollows Try.func18 (by kernel_rfl) c_skolemref03_Ints h
end Go.Gh
namespace Go.Gh
open Go.Proofs
abbrev F_skolemlaw03_PrefixReduces : Nat := 5
abbrev F_skolemref03_Flat : Nat := 9
abbrev F_skolemref03_May : Nat := 19
abbrev F_prefix_Find : Nat := 21
abbrev F_skolemref03_Has : Nat := 22
abbrev F_prefix_Reduce : Nat := 23
abbrev F_skolemref03_Abs : Nat := 24
abbrev F_skolemref03_single : Nat := 35
abbrev F_slices_DeleteFunc_int_int : Nat := 37
abbrev F_slices_Clone_int_int : Nat := 38
abbrev F_prefix_places : Nat := 42
abbrev F_prefix_abs : Nat := 43
abbrev F_slices_Contains_int_int : Nat := 52
abbrev F_prefix_last : Nat := 53
abbrev F_prefix_Reduce_1 : Nat := 54
abbrev F_prefix_each : Nat := 67
abbrev F_slices_IndexFunc_int_int : Nat := 68
abbrev F_slices_Index_int_int : Nat := 74
abbrev F_prefix_each_1 : Nat := 82
noncomputable abbrev G_skolemlaw03_PrefixReduces : GFun := ⟨118, [(.tmp 6)], (.seq (.region [⟨0, ⟨(some 6), none, (.pure .id), [(.const (.bool false))]⟩, []⟩]) (.seq (.seq (.region [⟨0, ⟨(some 17), none, (.pure .id), [(.tmp 0)]⟩, []⟩, ⟨0, ⟨(some 18), none, (.call F_skolemlaw03_wide), [(.tmp 17), (.const .nils), (.const (.int .i64 300))]⟩, []⟩, ⟨0, ⟨(some 19), none, (.pure .id), [(.tmp 18)]⟩, []⟩, ⟨0, ⟨(some 20), (some (19, false)), (.pure .id), [(.tmp 1)]⟩, []⟩, ⟨0, ⟨(some 21), (some (19, false)), (.pure .len), [(.tmp 20)]⟩, []⟩, ⟨0, ⟨(some 22), (some (19, false)), (.pure (.bin .gtr .none)), [(.tmp 21), (.const (.int .i64 100))]⟩, []⟩, ⟨0, ⟨(some 23), none, (.pure .pick), [(.tmp 19), (.const (.bool true)), (.tmp 22)]⟩, []⟩, ⟨0, ⟨(some 24), none, (.pure .id), [(.tmp 23)]⟩, []⟩, ⟨0, ⟨(some 25), (some (24, false)), (.pure .id), [(.tmp 0)]⟩, []⟩, ⟨0, ⟨(some 26), (some (24, false)), (.call F_skolemref03_May), [(.tmp 25)]⟩, []⟩, ⟨0, ⟨(some 27), (some (24, false)), (.pure (.un .not)), [(.tmp 26)]⟩, []⟩, ⟨0, ⟨(some 28), none, (.pure .pick), [(.tmp 24), (.const (.bool true)), (.tmp 27)]⟩, []⟩]) (.cond (.tmp 28) (.seq (.region [⟨0, ⟨(some 29), none, (.call F_skolemlaw03_head), []⟩, []⟩, ⟨0, ⟨(some 6), none, (.pure .id), [(.tmp 29)]⟩, []⟩]) .ret) .skip)) (.seq (.region [⟨0, ⟨(some 30), none, (.pure .id), [(.tmp 0)]⟩, []⟩, ⟨0, ⟨(some 31), none, (.pure .id), [(.tmp 1)]⟩, []⟩, ⟨0, ⟨(some 32), none, (.pure .id), [(.tmp 2)]⟩, []⟩, ⟨0, ⟨(some 33), none, (.call F_prefix_Reduce), [(.tmp 30), (.tmp 31), (.tmp 32)]⟩, []⟩, ⟨0, ⟨(some 7), none, (.pure .id), [(.tmp 33)]⟩, []⟩]) (.seq (.region [⟨0, ⟨(some 8), none, (.pure .id), [(.const (.int .i64 0))]⟩, []⟩]) (.seq (.seq (.region [⟨0, ⟨(some 9), none, (.pure .id), [(.const (.int .i64 0))]⟩, []⟩]) (.block 0 (.loop (.seq (.seq (.region [⟨0, ⟨(some 34), none, (.pure .id), [(.tmp 9)]⟩, []⟩, ⟨0, ⟨(some 35), none, (.pure .id), [(.tmp 1)]⟩, []⟩, ⟨0, ⟨(some 36), none, (.pure .len), [(.tmp 35)]⟩, []⟩, ⟨0, ⟨(some 37), none, (.pure (.bin .lss .none)), [(.tmp 34), (.tmp 36)]⟩, []⟩]) (.cond (.tmp 37) .skip (.exit 0))) (.seq (.block 1 (.seq (.seq (.region [⟨0, ⟨(some 40), none, (.pure .id), [(.tmp 8)]⟩, []⟩, ⟨1, ⟨(some 41), none, (.pure .id), [(.tmp 7)]⟩, []⟩, ⟨2, ⟨(some 42), none, (.pure .len), [(.tmp 41)]⟩, []⟩, ⟨3, ⟨(some 43), none, (.pure (.bin .lss .none)), [(.tmp 40), (.tmp 42)]⟩, []⟩, ⟨4, ⟨(some 44), none, (.pure .id), [(.tmp 43)]⟩, []⟩, ⟨5, ⟨(some 45), (some (44, true)), (.pure .id), [(.tmp 7)]⟩, []⟩, ⟨6, ⟨(some 46), (some (44, true)), (.pure .id), [(.tmp 8)]⟩, []⟩, ⟨7, ⟨(some 47), (some (44, true)), (.pure (.iaddr 1)), [(.tmp 45), (.tmp 46)]⟩, []⟩, ⟨8, ⟨(some 48), (some (44, true)), (.load (.load 1 false)), [(.tmp 47)]⟩, []⟩, ⟨9, ⟨(some 49), (some (44, true)), (.pure .id), [(.tmp 1)]⟩, []⟩, ⟨10, ⟨(some 50), (some (44, true)), (.pure .id), [(.tmp 9)]⟩, []⟩, ⟨11, ⟨(some 51), (some (44, true)), (.pure (.iaddr 1)), [(.tmp 49), (.tmp 50)]⟩, []⟩, ⟨12, ⟨(some 52), (some (44, true)), (.load (.load 1 false)), [(.tmp 51)]⟩, []⟩, ⟨13, ⟨(some 53), (some (44, true)), (.pure (.bin .eql .none)), [(.tmp 48), (.tmp 52)]⟩, []⟩, ⟨14, ⟨(some 54), none, (.pure .pick), [(.tmp 44), (.tmp 53), (.const (.bool false))]⟩, []⟩]) (.cond (.tmp 54) (.seq (.region [⟨0, ⟨(some 55), none, (.pure .id), [(.tmp 8)]⟩, []⟩, ⟨0, ⟨(some 56), none, (.pure (.bin .add .none)), [(.tmp 55), (.const (.int .i64 1))]⟩, []⟩, ⟨0, ⟨(some 8), none, (.pure .id), [(.tmp 56)]⟩, []⟩]) (.exit 1)) .skip)) (.seq (.region [⟨0, ⟨(some 58), none, (.pure .id), [(.tmp 0)]⟩, []⟩, ⟨0, ⟨(some 59), none, (.pure .id), [(.tmp 1)]⟩, []⟩, ⟨0, ⟨(some 60), none, (.pure .id), [(.tmp 9)]⟩, []⟩, ⟨0, ⟨(some 61), none, (.pure (.iaddr 1)), [(.tmp 59), (.tmp 60)]⟩, []⟩, ⟨0, ⟨(some 62), none, (.load (.load 1 false)), [(.tmp 61)]⟩, []⟩, ⟨0, ⟨(some 63), none, (.call F_skolemref03_Abs), [(.tmp 62)]⟩, []⟩, ⟨0, ⟨(some 64), none, (.call F_prefix_Find), [(.tmp 58), (.tmp 63)]⟩, []⟩, ⟨0, ⟨(some 57), none, (.pure .id), [(.tmp 64)]⟩, []⟩, ⟨0, ⟨(some 65), none, (.pure (.extract 0)), [(.tmp 57)]⟩, []⟩, ⟨0, ⟨(some 66), none, (.pure (.extract 1)), [(.tmp 57)]⟩, []⟩, ⟨0, ⟨(some 67), none, (.pure (.extract 2)), [(.tmp 57)]⟩, []⟩, ⟨0, ⟨(some 10), none, (.pure .id), [(.tmp 65)]⟩, []⟩, ⟨0, ⟨(some 11), none, (.pure .id), [(.tmp 66)]⟩, []⟩, ⟨0, ⟨(some 12), none, (.pure .id), [(.tmp 67)]⟩, []⟩]) (.seq (.seq (.region [⟨0, ⟨(some 68), none, (.pure .id), [(.tmp 12)]⟩, []⟩, ⟨0, ⟨(some 69), none, (.pure (.un .not)), [(.tmp 68)]⟩, []⟩, ⟨0, ⟨(some 70), none, (.pure .id), [(.tmp 69)]⟩, []⟩, ⟨0, ⟨(some 71), (some (70, false)), (.pure .id), [(.tmp 11)]⟩, []⟩, ⟨0, ⟨(some 72), (some (70, false)), (.pure .id), [(.tmp 2)]⟩, []⟩, ⟨0, ⟨(some 73), (some (70, false)), (.pure (.bin .neq .bool)), [(.tmp 71), (.tmp 72)]⟩, []⟩, ⟨0, ⟨(some 74), none, (.pure .pick), [(.tmp 70), (.const (.bool true)), (.tmp 73)]⟩, []⟩]) (.cond (.tmp 74) (.seq (.region [⟨0, ⟨(some 6), none, (.pure .id), [(.const (.bool false))]⟩, []⟩]) .ret) .skip)) (.seq (.region [⟨0, ⟨(some 13), none, (.pure .id), [(.const (.int .i64 0))]⟩, []⟩]) (.block 2 (.loop (.seq (.seq (.region [⟨0, ⟨(some 75), none, (.pure .id), [(.tmp 13)]⟩, []⟩, ⟨0, ⟨(some 76), none, (.pure .id), [(.tmp 1)]⟩, []⟩, ⟨0, ⟨(some 77), none, (.pure .len), [(.tmp 76)]⟩, []⟩, ⟨0, ⟨(some 78), none, (.pure (.bin .lss .none)), [(.tmp 75), (.tmp 77)]⟩, []⟩]) (.cond (.tmp 78) .skip (.exit 2))) (.seq (.block 3 (.seq (.region [⟨0, ⟨(some 82), none, (.pure .id), [(.tmp 0)]⟩, []⟩, ⟨0, ⟨(some 83), none, (.pure .id), [(.tmp 1)]⟩, []⟩, ⟨0, ⟨(some 84), none, (.pure .id), [(.tmp 13)]⟩, []⟩, ⟨0, ⟨(some 85), none, (.pure (.iaddr 1)), [(.tmp 83), (.tmp 84)]⟩, []⟩, ⟨0, ⟨(some 86), none, (.load (.load 1 false)), [(.tmp 85)]⟩, []⟩, ⟨0, ⟨(some 87), none, (.call F_skolemref03_Abs), [(.tmp 86)]⟩, []⟩, ⟨0, ⟨(some 88), none, (.call F_prefix_Find), [(.tmp 82), (.tmp 87)]⟩, []⟩, ⟨0, ⟨(some 81), none, (.pure .id), [(.tmp 88)]⟩, []⟩, ⟨0, ⟨(some 89), none, (.pure (.extract 0)), [(.tmp 81)]⟩, []⟩, ⟨0, ⟨(some 90), none, (.pure (.extract 1)), [(.tmp 81)]⟩, []⟩, ⟨0, ⟨(some 91), none, (.pure (.extract 2)), [(.tmp 81)]⟩, []⟩, ⟨0, ⟨(some 14), none, (.pure .id), [(.tmp 89)]⟩, []⟩, ⟨0, ⟨(some 15), none, (.pure .id), [(.tmp 90)]⟩, []⟩, ⟨0, ⟨(some 16), none, (.pure .id), [(.tmp 91)]⟩, []⟩]) (.seq (.region [⟨0, ⟨(some 92), none, (.pure .id), [(.tmp 16)]⟩, []⟩, ⟨0, ⟨(some 93), none, (.pure .id), [(.tmp 92)]⟩, []⟩, ⟨0, ⟨(some 94), (some (93, true)), (.pure .id), [(.tmp 15)]⟩, []⟩, ⟨0, ⟨(some 95), (some (93, true)), (.pure .id), [(.tmp 2)]⟩, []⟩, ⟨0, ⟨(some 96), (some (93, true)), (.pure (.bin .neq .bool)), [(.tmp 94), (.tmp 95)]⟩, []⟩, ⟨0, ⟨(some 97), none, (.pure .pick), [(.tmp 93), (.tmp 96), (.const (.bool false))]⟩, []⟩, ⟨0, ⟨(some 98), none, (.pure .id), [(.tmp 97)]⟩, []⟩, ⟨0, ⟨(some 99), (some (98, true)), (.pure .id), [(.tmp 14)]⟩, []⟩, ⟨0, ⟨(some 100), (some (98, true)), (.pure .id), [(.tmp 10)]⟩, []⟩, ⟨0, ⟨(some 101), (some (98, true)), (.pure (.bin .gtr .none)), [(.tmp 99), (.tmp 100)]⟩, []⟩, ⟨0, ⟨(some 102), none, (.pure .pick), [(.tmp 98), (.tmp 101), (.const (.bool false))]⟩, []⟩]) (.cond (.tmp 102) (.seq (.region [⟨0, ⟨(some 6), none, (.pure .id), [(.const (.bool false))]⟩, []⟩]) .ret) .skip)))) (.region [⟨0, ⟨(some 79), none, (.pure .id), [(.tmp 13)]⟩, []⟩, ⟨0, ⟨(some 80), none, (.pure (.bin .add .none)), [(.tmp 79), (.const (.int .i64 1))]⟩, []⟩, ⟨0, ⟨(some 13), none, (.pure .id), [(.tmp 80)]⟩, []⟩])))))))))) (.region [⟨0, ⟨(some 38), none, (.pure .id), [(.tmp 9)]⟩, []⟩, ⟨0, ⟨(some 39), none, (.pure (.bin .add .none)), [(.tmp 38), (.const (.int .i64 1))]⟩, []⟩, ⟨0, ⟨(some 9), none, (.pure .id), [(.tmp 39)]⟩, []⟩])))))) (.seq (.region [⟨0, ⟨(some 103), none, (.pure .id), [(.tmp 8)]⟩, []⟩, ⟨0, ⟨(some 104), none, (.pure .id), [(.tmp 7)]⟩, []⟩, ⟨0, ⟨(some 105), none, (.pure .len), [(.tmp 104)]⟩, []⟩, ⟨0, ⟨(some 106), none, (.pure (.bin .eql .none)), [(.tmp 103), (.tmp 105)]⟩, []⟩, ⟨0, ⟨(some 107), none, (.pure .id), [(.tmp 106)]⟩, []⟩, ⟨0, ⟨(some 108), (some (107, true)), (.pure .id), [(.tmp 0)]⟩, []⟩, ⟨0, ⟨(some 109), (some (107, true)), (.pure .id), [(.tmp 7)]⟩, []⟩, ⟨0, ⟨(some 110), (some (107, true)), (.pure .id), [(.tmp 2)]⟩, []⟩, ⟨0, ⟨(some 111), (some (107, true)), (.call F_prefix_Reduce), [(.tmp 108), (.tmp 109), (.tmp 110)]⟩, []⟩, ⟨0, ⟨(some 112), (some (107, true)), (.pure .id), [(.tmp 7)]⟩, []⟩, ⟨0, ⟨(some 113), (some (107, true)), (.call F_skolemref03_Ints), [(.tmp 111), (.tmp 112)]⟩, []⟩, ⟨0, ⟨(some 114), none, (.pure .pick), [(.tmp 107), (.tmp 113), (.const (.bool false))]⟩, []⟩, ⟨0, ⟨(some 115), none, (.pure .id), [(.tmp 114)]⟩, []⟩, ⟨0, ⟨(some 116), (some (115, true)), (.call F_skolemlaw03_head), []⟩, []⟩, ⟨0, ⟨(some 117), none, (.pure .pick), [(.tmp 115), (.tmp 116), (.const (.bool false))]⟩, []⟩, ⟨0, ⟨(some 6), none, (.pure .id), [(.tmp 117)]⟩, []⟩]) .ret))))))⟩
theorem c_skolemlaw03_PrefixReduces : compF Try.prog Try.f5 = some G_skolemlaw03_PrefixReduces := by kernel_rfl
theorem gc_skolemlaw03_PrefixReduces {args : List DV} {σ : GS} {Post : DV → GS → Prop} (h : @exB Try.prog ⟨G_skolemlaw03_PrefixReduces.body⟩ (genv0 args G_skolemlaw03_PrefixReduces.ntmps) σ ⟨@gretB G_skolemlaw03_PrefixReduces.results ⟨Post⟩⟩) : GCall Try.prog F_skolemlaw03_PrefixReduces args σ Post := gcall_ofB seatfollows Try.func5 (by kernel_rfl) c_skolemlaw03_PrefixReduces h
noncomputable abbrev G_skolemref03_Flat : GFun := ⟨19, [(.tmp 2)], (.seq (.region [⟨0, ⟨(some 2), none, (.pure .id), [(.const .nils)]⟩, []⟩]) (.seq (.region [⟨0, ⟨(some 3), none, (.pure .id), [(.const .nils)]⟩, []⟩]) (.seq (.seq (.region [⟨0, ⟨(some 4), none, (.pure .id), [(.const (.int .i64 0))]⟩, []⟩]) (.block 0 (.loop (.seq (.seq (.region [⟨0, ⟨(some 5), none, (.pure .id), [(.tmp 4)]⟩, []⟩, ⟨0, ⟨(some 6), none, (.pure .id), [(.tmp 0)]⟩, []⟩, ⟨0, ⟨(some 7), none, (.pure .len), [(.tmp 6)]⟩, []⟩, ⟨0, ⟨(some 8), none, (.pure (.bin .lss .none)), [(.tmp 5), (.tmp 7)]⟩, []⟩]) (.cond (.tmp 8) .skip (.exit 0))) (.seq (.block 1 (.region [⟨0, ⟨(some 11), none, (.pure .id), [(.tmp 3)]⟩, []⟩, ⟨0, ⟨(some 12), none, (.pure .id), [(.tmp 0)]⟩, []⟩, ⟨0, ⟨(some 13), none, (.pure .id), [(.tmp 4)]⟩, []⟩, ⟨0, ⟨(some 14), none, (.pure (.iaddr 2)), [(.tmp 12), (.tmp 13)]⟩, []⟩, ⟨0, ⟨(some 15), none, (.pure (.faddr 1)), [(.tmp 14)]⟩, []⟩, ⟨0, ⟨(some 16), none, (.load (.load 1 false)), [(.tmp 15)]⟩, []⟩, ⟨0, ⟨(some 17), none, (.imp (.append 1 8)), [(.tmp 11), (.tmp 16)]⟩, []⟩, ⟨0, ⟨(some 3), none, (.pure .id), [(.tmp 17)]⟩, []⟩])) (.region [⟨0, ⟨(some 9), none, (.pure .id), [(.tmp 4)]⟩, []⟩, ⟨0, ⟨(some 10), none, (.pure (.bin .add .none)), [(.tmp 9), (.const (.int .i64 1))]⟩, []⟩, ⟨0, ⟨(some 4), none, (.pure .id), [(.tmp 10)]⟩, []⟩])))))) (.seq (.region [⟨0, ⟨(some 18), none, (.pure .id), [(.tmp 3)]⟩, []⟩, ⟨0, ⟨(some 2), none, (.pure .id), [(.tmp 18)]⟩, []⟩]) .ret))))⟩
theorem c_skolemref03_Flat : compF Try.prog Try.f9 = some G_skolemref03_Flat := by kernel_rfl
theorem gc_skolemref03_Flat {args : List DV} {σ : GS} {Post : DV → GS → Prop} (h : @exB Try.prog ⟨G_skolemref03_Flat.body⟩ (genv0 args G_skolemref03_Flat.ntmps) σ ⟨@gretB G_skolemref03_Flat.results ⟨Post⟩⟩) : GCall Try.prog F_skolemref03_Flat args σ Post := gcall_ofB seatfollows Try.func9 (by kernel_rfl) c_skolemref03_Flat h
noncomputable abbrev G_skolemref03_Has : GFun := ⟨18, [(.tmp 4)], (.seq (.region [⟨0, ⟨(some 4), none, (.pure .id), [(.const (.bool false))]⟩, []⟩]) (.seq (.seq (.region [⟨0, ⟨(some 5), none, (.pure .id), [(.const (.int .i64 0))]⟩, []⟩]) (.block 0 (.loop (.seq (.seq (.region [⟨0, ⟨(some 6), none, (.pure .id), [(.tmp 5)]⟩, []⟩, ⟨0, ⟨(some 7), none, (.pure .id), [(.tmp 0)]⟩, []⟩, ⟨0, ⟨(some 8), none, (.pure .len), [(.tmp 7)]⟩, []⟩, ⟨0, ⟨(some 9), none, (.pure (.bin .lss .none)), [(.tmp 6), (.tmp 8)]⟩, []⟩]) (.cond (.tmp 9) .skip (.exit 0))) (.seq (.block 1 (.seq (.region [⟨0, ⟨(some 12), none, (.pure .id), [(.tmp 0)]⟩, []⟩, ⟨0, ⟨(some 13), none, (.pure .id), [(.tmp 5)]⟩, []⟩, ⟨0, ⟨(some 14), none, (.pure (.iaddr 1)), [(.tmp 12), (.tmp 13)]⟩, []⟩, ⟨0, ⟨(some 15), none, (.load (.load 1 false)), [(.tmp 14)]⟩, []⟩, ⟨0, ⟨(some 16), none, (.pure .id), [(.tmp 1)]⟩, []⟩, ⟨0, ⟨(some 17), none, (.pure (.bin .eql .none)), [(.tmp 15), (.tmp 16)]⟩, []⟩]) (.cond (.tmp 17) (.seq (.region [⟨0, ⟨(some 4), none, (.pure .id), [(.const (.bool true))]⟩, []⟩]) .ret) .skip))) (.region [⟨0, ⟨(some 10), none, (.pure .id), [(.tmp 5)]⟩, []⟩, ⟨0, ⟨(some 11), none, (.pure (.bin .add .none)), [(.tmp 10), (.const (.int .i64 1))]⟩, []⟩, ⟨0, ⟨(some 5), none, (.pure .id), [(.tmp 11)]⟩, []⟩])))))) (.seq (.region [⟨0, ⟨(some 4), none, (.pure .id), [(.const (.bool false))]⟩, []⟩]) .ret)))⟩
theorem c_skolemref03_Has : compF Try.prog Try.f22 = some G_skolemref03_Has := by kernel_rfl
theorem gc_skolemref03_Has {args : List DV} {σ : GS} {Post : DV → GS → Prop} (h : @exB Try.prog ⟨G_skolemref03_Has.body⟩ (genv0 args G_skolemref03_Has.ntmps) σ ⟨@gretB G_skolemref03_Has.results ⟨Post⟩⟩) : GCall Try.prog F_skolemref03_Has args σ Post := gcall_ofB seatfollows Try.func22 (by kernel_rfl) c_skolemref03_Has h
noncomputable abbrev G_skolemref03_single : GFun := ⟨32, [(.tmp 2)], (.seq (.region [⟨0, ⟨(some 2), none, (.pure .id), [(.const (.bool false))]⟩, []⟩]) (.seq (.seq (.region [⟨0, ⟨(some 3), none, (.pure .id), [(.const (.int .i64 0))]⟩, []⟩]) (.block 0 (.loop (.seq (.seq (.region [⟨0, ⟨(some 4), none, (.pure .id), [(.tmp 3)]⟩, []⟩, ⟨0, ⟨(some 5), none, (.pure .id), [(.tmp 0)]⟩, []⟩, ⟨0, ⟨(some 6), none, (.pure .len), [(.tmp 5)]⟩, []⟩, ⟨0, ⟨(some 7), none, (.pure (.bin .lss .none)), [(.tmp 4), (.tmp 6)]⟩, []⟩]) (.cond (.tmp 7) .skip (.exit 0))) (.seq (.block 1 (.seq (.region [⟨0, ⟨(some 10), none, (.pure .id), [(.tmp 0)]⟩, []⟩, ⟨1, ⟨(some 11), none, (.pure .id), [(.tmp 3)]⟩, []⟩, ⟨2, ⟨(some 12), none, (.pure (.iaddr 1)), [(.tmp 10), (.tmp 11)]⟩, []⟩, ⟨3, ⟨(some 13), none, (.load (.load 1 false)), [(.tmp 12)]⟩, []⟩, ⟨4, ⟨(some 14), none, (.pure (.bin .lss .none)), [(.tmp 13), (.const (.int .i64 1))]⟩, []⟩, ⟨5, ⟨(some 15), none, (.pure .id), [(.tmp 14)]⟩, []⟩, ⟨6, ⟨(some 16), (some (15, false)), (.pure .id), [(.tmp 0)]⟩, []⟩, ⟨7, ⟨(some 17), (some (15, false)), (.pure .id), [(.tmp 3)]⟩, []⟩, ⟨8, ⟨(some 18), (some (15, false)), (.pure (.iaddr 1)), [(.tmp 16), (.tmp 17)]⟩, []⟩, ⟨9, ⟨(some 19), (some (15, false)), (.load (.load 1 false)), [(.tmp 18)]⟩, []⟩, ⟨10, ⟨(some 20), (some (15, false)), (.pure (.bin .gtr .none)), [(.tmp 19), (.const (.int .i64 65536))]⟩, []⟩, ⟨11, ⟨(some 21), none, (.pure .pick), [(.tmp 15), (.const (.bool true)), (.tmp 20)]⟩, []⟩, ⟨12, ⟨(some 22), none, (.pure .id), [(.tmp 21)]⟩, []⟩, ⟨13, ⟨(some 23), (some (22, false)), (.pure .id), [(.tmp 0)]⟩, []⟩, ⟨14, ⟨(some 24), (some (22, false)), (.pure .id), [(.tmp 3)]⟩, []⟩, ⟨15, ⟨(some 25), (some (22, false)), (.pure (.slice 1 false true false)), [(.tmp 23), (.tmp 24)]⟩, []⟩, ⟨16, ⟨(some 26), (some (22, false)), (.pure .id), [(.tmp 0)]⟩, []⟩, ⟨17, ⟨(some 27), (some (22, false)), (.pure .id), [(.tmp 3)]⟩, []⟩, ⟨18, ⟨(some 28), (some (22, false)), (.pure (.iaddr 1)), [(.tmp 26), (.tmp 27)]⟩, []⟩, ⟨19, ⟨(some 29), (some (22, false)), (.load (.load 1 false)), [(.tmp 28)]⟩, []⟩, ⟨20, ⟨(some 30), (some (22, false)), (.call F_skolemref03_Has), [(.tmp 25), (.tmp 29)]⟩, []⟩, ⟨21, ⟨(some 31), none, (.pure .pick), [(.tmp 22), (.const (.bool true)), (.tmp 30)]⟩, []⟩]) (.cond (.tmp 31) (.seq (.region [⟨0, ⟨(some 2), none, (.pure .id), [(.const (.bool false))]⟩, []⟩]) .ret) .skip))) (.region [⟨0, ⟨(some 8), none, (.pure .id), [(.tmp 3)]⟩, []⟩, ⟨0, ⟨(some 9), none, (.pure (.bin .add .none)), [(.tmp 8), (.const (.int .i64 1))]⟩, []⟩, ⟨0, ⟨(some 3), none, (.pure .id), [(.tmp 9)]⟩, []⟩])))))) (.seq (.region [⟨0, ⟨(some 2), none, (.pure .id), [(.const (.bool true))]⟩, []⟩]) .ret)))⟩
theorem c_skolemref03_single : compF Try.prog Try.f35 = some G_skolemref03_single := by kernel_rfl
theorem gc_skolemref03_single {args : List DV} {σ : GS} {Post : DV → GS → Prop} (h : @exB Try.prog ⟨G_skolemref03_single.body⟩ (genv0 args G_skolemref03_single.ntmps) σ ⟨@gretB G_skolemref03_single.results ⟨Post⟩⟩) : GCall Try.prog F_skolemref03_single args σ Post := gcall_ofB seatfollows Try.func35 (by kernel_rfl) c_skolemref03_single h
noncomputable abbrev G_skolemref03_May : GFun := ⟨45, [(.tmp 2)], (.seq (.region [⟨0, ⟨(some 2), none, (.pure .id), [(.const (.bool false))]⟩, []⟩]) (.seq (.seq (.region [⟨0, ⟨(some 3), none, (.pure .id), [(.const (.int .i64 0))]⟩, []⟩]) (.block 0 (.loop (.seq (.seq (.region [⟨0, ⟨(some 5), none, (.pure .id), [(.tmp 3)]⟩, []⟩, ⟨0, ⟨(some 6), none, (.pure .id), [(.tmp 0)]⟩, []⟩, ⟨0, ⟨(some 7), none, (.pure .len), [(.tmp 6)]⟩, []⟩, ⟨0, ⟨(some 8), none, (.pure (.bin .lss .none)), [(.tmp 5), (.tmp 7)]⟩, []⟩]) (.cond (.tmp 8) .skip (.exit 0))) (.seq (.block 1 (.seq (.region [⟨0, ⟨(some 11), none, (.pure .id), [(.tmp 0)]⟩, []⟩, ⟨1, ⟨(some 12), none, (.pure .id), [(.tmp 3)]⟩, []⟩, ⟨2, ⟨(some 13), none, (.pure (.iaddr 2)), [(.tmp 11), (.tmp 12)]⟩, []⟩, ⟨3, ⟨(some 14), none, (.pure (.faddr 1)), [(.tmp 13)]⟩, []⟩, ⟨4, ⟨(some 15), none, (.load (.load 1 false)), [(.tmp 14)]⟩, []⟩, ⟨5, ⟨(some 16), none, (.pure .len), [(.tmp 15)]⟩, []⟩, ⟨6, ⟨(some 17), none, (.pure (.bin .eql .none)), [(.tmp 16), (.const (.int .i64 0))]⟩, []⟩, ⟨7, ⟨(some 18), none, (.pure .id), [(.tmp 17)]⟩, []⟩, ⟨8, ⟨(some 19), (some (18, false)), (.pure .id), [(.tmp 3)]⟩, []⟩, ⟨9, ⟨(some 20), (some (18, false)), (.pure (.bin .gtr .none)), [(.tmp 19), (.const (.int .i64 0))]⟩, []⟩, ⟨10, ⟨(some 21), (some (18, false)), (.pure .id), [(.tmp 20)]⟩, []⟩, ⟨11, ⟨(some 22), (some (21, true)), (.pure .id), [(.tmp 0)]⟩, []⟩, ⟨12, ⟨(some 23), (some (21, true)), (.pure .id), [(.tmp 3)]⟩, []⟩, ⟨13, ⟨(some 24), (some (21, true)), (.pure (.bin .sub .none)), [(.tmp 23), (.const (.int .i64 1))]⟩, []⟩, ⟨14, ⟨(some 25), (some (21, true)), (.pure (.iaddr 2)), [(.tmp 22), (.tmp 24)]⟩, []⟩, ⟨15, ⟨(some 26), (some (21, true)), (.pure (.faddr 0)), [(.tmp 25)]⟩, []⟩, ⟨16, ⟨(some 27), (some (21, true)), (.load (.load 1 false)), [(.tmp 26)]⟩, []⟩, ⟨17, ⟨(some 28), (some (21, true)), (.pure .id), [(.tmp 0)]⟩, []⟩, ⟨18, ⟨(some 29), (some (21, true)), (.pure .id), [(.tmp 3)]⟩, []⟩, ⟨19, ⟨(some 30), (some (21, true)), (.pure (.iaddr 2)), [(.tmp 28), (.tmp 29)]⟩, []⟩, ⟨20, ⟨(some 31), (some (21, true)), (.pure (.faddr 0)), [(.tmp 30)]⟩, []⟩, ⟨21, ⟨(some 32), (some (21, true)), (.load (.load 1 false)), [(.tmp 31)]⟩, []⟩, ⟨22, ⟨(some 33), (some (21, true)), (.pure (.bin .eql .bool)), [(.tmp 27), (.tmp 32)]⟩, []⟩, ⟨23, ⟨(some 34), (some (18, false)), (.pure .pick), [(.tmp 21), (.tmp 33), (.const (.bool false))]⟩, []⟩, ⟨24, ⟨(some 35), none, (.pure .pick), [(.tmp 18), (.const (.bool true)), (.tmp 34)]⟩, []⟩]) (.cond (.tmp 35) (.seq (.region [⟨0, ⟨(some 2), none, (.pure .id), [(.const (.bool false))]⟩, []⟩]) .ret) .skip))) (.region [⟨0, ⟨(some 9), none, (.pure .id), [(.tmp 3)]⟩, []⟩, ⟨0, ⟨(some 10), none, (.pure (.bin .add .none)), [(.tmp 9), (.const (.int .i64 1))]⟩, []⟩, ⟨0, ⟨(some 3), none, (.pure .id), [(.tmp 10)]⟩, []⟩])))))) (.seq (.region [⟨0, ⟨(some 36), none, (.pure .id), [(.tmp 0)]⟩, []⟩, ⟨0, ⟨(some 37), none, (.call F_skolemref03_Flat), [(.tmp 36)]⟩, []⟩, ⟨0, ⟨(some 4), none, (.pure .id), [(.tmp 37)]⟩, []⟩]) (.seq (.region [⟨0, ⟨(some 38), none, (.pure .id), [(.tmp 4)]⟩, []⟩, ⟨0, ⟨(some 39), none, (.pure .len), [(.tmp 38)]⟩, []⟩, ⟨0, ⟨(some 40), none, (.pure (.bin .leq .none)), [(.tmp 39), (.const (.int .i64 1024))]⟩, []⟩, ⟨0, ⟨(some 41), none, (.pure .id), [(.tmp 40)]⟩, []⟩, ⟨0, ⟨(some 42), (some (41, true)), (.pure .id), [(.tmp 4)]⟩, []⟩, ⟨0, ⟨(some 43), (some (41, true)), (.call F_skolemref03_single), [(.tmp 42)]⟩, []⟩, ⟨0, ⟨(some 44), none, (.pure .pick), [(.tmp 41), (.tmp 43), (.const (.bool false))]⟩, []⟩, ⟨0, ⟨(some 2), none, (.pure .id), [(.tmp 44)]⟩, []⟩]) .ret))))⟩
theorem c_skolemref03_May : compF Try.prog Try.f19 = some G_skolemref03_May := by kernel_rfl
theorem gc_skolemref03_May {args : List DV} {σ : GS} {Post : DV → GS → Prop} (h : @exB Try.prog ⟨G_skolemref03_May.body⟩ (genv0 args G_skolemref03_May.ntmps) σ ⟨@gretB G_skolemref03_May.results ⟨Post⟩⟩) : GCall Try.prog F_skolemref03_May args σ Post := gcall_ofB seatfollows Try.func19 (by kernel_rfl) c_skolemref03_May h
noncomputable abbrev G_skolemref03_Abs : GFun := ⟨8, [(.tmp 2)], (.seq (.region [⟨0, ⟨(some 2), none, (.pure .id), [(.const (.int .i64 0))]⟩, []⟩]) (.seq (.seq (.region [⟨0, ⟨(some 3), none, (.pure .id), [(.tmp 0)]⟩, []⟩, ⟨0, ⟨(some 4), none, (.pure (.bin .lss .none)), [(.tmp 3), (.const (.int .i64 0))]⟩, []⟩]) (.cond (.tmp 4) (.seq (.region [⟨0, ⟨(some 5), none, (.pure .id), [(.tmp 0)]⟩, []⟩, ⟨0, ⟨(some 6), none, (.pure (.un .neg)), [(.tmp 5)]⟩, []⟩, ⟨0, ⟨(some 2), none, (.pure .id), [(.tmp 6)]⟩, []⟩]) .ret) .skip)) (.seq (.region [⟨0, ⟨(some 7), none, (.pure .id), [(.tmp 0)]⟩, []⟩, ⟨0, ⟨(some 2), none, (.pure .id), [(.tmp 7)]⟩, []⟩]) .ret)))⟩
theorem c_skolemref03_Abs : compF Try.prog Try.f24 = some G_skolemref03_Abs := by kernel_rfl
theorem gc_skolemref03_Abs {args : List DV} {σ : GS} {Post : DV → GS → Prop} (h : @exB Try.prog ⟨G_skolemref03_Abs.body⟩ (genv0 args G_skolemref03_Abs.ntmps) σ ⟨@gretB G_skolemref03_Abs.results ⟨Post⟩⟩) : GCall Try.prog F_skolemref03_Abs args σ Post := gcall_ofB seatfollows Try.func24 (by kernel_rfl) c_skolemref03_Abs h
noncomputable abbrev G_prefix_each : GFun := ⟨4, [(.tmp 2)], (.seq (.region [⟨0, ⟨(some 1), none, (.new .box), [(.tmp 0)]⟩, []⟩, ⟨0, ⟨(some 2), none, (.pure .id), [(.const .nilf)]⟩, []⟩]) (.seq (.region [⟨0, ⟨(some 3), none, (.pure (.mkfunc F_prefix_each_1 0)), [(.tmp 1)]⟩, []⟩, ⟨0, ⟨(some 2), none, (.pure .id), [(.tmp 3)]⟩, []⟩]) .ret))⟩
theorem c_prefix_each : compF Try.prog Try.f67 = some G_prefix_each := by kernel_rfl
theorem gc_prefix_each {args : List DV} {σ : GS} {Post : DV → GS → Prop} (h : @exB Try.prog ⟨G_prefix_each.body⟩ (genv0 args G_prefix_each.ntmps) σ ⟨@gretB G_prefix_each.results ⟨Post⟩⟩) : GCall Try.prog F_prefix_each args σ Post := gcall_ofB seatfollows Try.func67 (by kernel_rfl) c_prefix_each h
noncomputable abbrev G_prefix_each_1 : GFun := ⟨28, [], (.seq (.region [⟨0, ⟨(some 7), none, (.load (.load 1 false)), [(.tmp 1)]⟩, []⟩, ⟨0, ⟨(some 8), none, (.pure .len), [(.tmp 7)]⟩, []⟩, ⟨0, ⟨(some 9), none, (.pure .id), [(.const (.int .i64 0))]⟩, []⟩]) (.block 0 (.loop (.seq (.region [⟨0, ⟨(some 10), none, (.pure (.bin .lss .none)), [(.tmp 9), (.tmp 8)]⟩, []⟩]) (.seq (.cond (.tmp 10) .skip (.exit 0)) (.seq (.block 1 (.seq (.region [⟨0, ⟨(some 11), none, (.pure .id), [(.tmp 9)]⟩, []⟩, ⟨0, ⟨(some 12), none, (.pure (.iaddr 2)), [(.tmp 7), (.tmp 9)]⟩, []⟩, ⟨0, ⟨(some 13), none, (.load (.load 2 true)), [(.tmp 12)]⟩, []⟩, ⟨0, ⟨(some 4), none, (.new (.alloc [(.bool false), .nils])), []⟩, []⟩, ⟨0, ⟨(some 3), none, (.pure .id), [(.tmp 11)]⟩, []⟩, ⟨0, ⟨none, none, (.imp (.store 2)), [(.tmp 4), (.tmp 13)]⟩, []⟩]) (.seq (.region [⟨0, ⟨(some 14), none, (.pure (.faddr 1)), [(.tmp 4)]⟩, []⟩, ⟨0, ⟨(some 15), none, (.load (.load 1 false)), [(.tmp 14)]⟩, []⟩, ⟨0, ⟨(some 16), none, (.pure .len), [(.tmp 15)]⟩, []⟩, ⟨0, ⟨(some 17), none, (.pure .id), [(.const (.int .i64 0))]⟩, []⟩]) (.block 2 (.loop (.seq (.region [⟨0, ⟨(some 18), none, (.pure (.bin .lss .none)), [(.tmp 17), (.tmp 16)]⟩, []⟩]) (.seq (.cond (.tmp 18) .skip (.exit 2)) (.seq (.block 3 (.seq (.region [⟨0, ⟨(some 19), none, (.pure (.iaddr 1)), [(.tmp 15), (.tmp 17)]⟩, []⟩, ⟨0, ⟨(some 20), none, (.load (.load 1 false)), [(.tmp 19)]⟩, []⟩, ⟨0, ⟨(some 6), none, (.pure .id), [(.tmp 20)]⟩, []⟩]) (.seq (.region [⟨0, ⟨(some 21), none, (.pure .id), [(.tmp 0)]⟩, []⟩, ⟨0, ⟨(some 22), none, (.pure .id), [(.tmp 3)]⟩, []⟩, ⟨0, ⟨(some 23), none, (.pure .id), [(.tmp 6)]⟩, []⟩, ⟨0, ⟨(some 24), none, .callv, [(.tmp 21), (.tmp 22), (.tmp 23)]⟩, []⟩, ⟨0, ⟨(some 25), none, (.pure (.un .not)), [(.tmp 24)]⟩, []⟩]) (.cond (.tmp 25) .ret .skip)))) (.region [⟨0, ⟨(some 26), none, (.pure (.bin .add .none)), [(.tmp 17), (.const (.int .i64 1))]⟩, []⟩, ⟨0, ⟨(some 17), none, (.pure .id), [(.tmp 26)]⟩, []⟩]))))))))) (.region [⟨0, ⟨(some 27), none, (.pure (.bin .add .none)), [(.tmp 9), (.const (.int .i64 1))]⟩, []⟩, ⟨0, ⟨(some 9), none, (.pure .id), [(.tmp 27)]⟩, []⟩])))))))⟩
theorem c_prefix_each_1 : compF Try.prog Try.f82 = some G_prefix_each_1 := by kernel_rfl
theorem gc_prefix_each_1 {args : List DV} {σ : GS} {Post : DV → GS → Prop} (h : @exB Try.prog ⟨G_prefix_each_1.body⟩ (genv0 args G_prefix_each_1.ntmps) σ ⟨@gretB G_prefix_each_1.results ⟨Post⟩⟩) : GCall Try.prog F_prefix_each_1 args σ Post := gcall_ofB seatfollows Try.func82 (by kernel_rfl) c_prefix_each_1 h
noncomputable abbrev G_prefix_Find : GFun := ⟨24, [(.tmp 4), (.tmp 5), (.tmp 6)], (.seq (.region [⟨0, ⟨(some 4), none, (.pure .id), [(.const (.int .i64 0))]⟩, []⟩, ⟨0, ⟨(some 5), none, (.pure .id), [(.const (.bool false))]⟩, []⟩, ⟨0, ⟨(some 6), none, (.pure .id), [(.const (.bool false))]⟩, []⟩]) (.seq (.seq (.region [⟨0, ⟨(some 9), none, (.pure .id), [(.tmp 0)]⟩, []⟩, ⟨0, ⟨(some 10), none, (.pure .len), [(.tmp 9)]⟩, []⟩, ⟨0, ⟨(some 11), none, (.pure .id), [(.const (.int .i64 0))]⟩, []⟩]) (.block 0 (.loop (.seq (.region [⟨0, ⟨(some 12), none, (.pure (.bin .lss .none)), [(.tmp 11), (.tmp 10)]⟩, []⟩]) (.seq (.cond (.tmp 12) .skip (.exit 0)) (.seq (.block 1 (.seq (.region [⟨0, ⟨(some 13), none, (.pure .id), [(.tmp 11)]⟩, []⟩, ⟨0, ⟨(some 14), none, (.pure (.iaddr 2)), [(.tmp 9), (.tmp 11)]⟩, []⟩, ⟨0, ⟨(some 15), none, (.load (.load 2 true)), [(.tmp 14)]⟩, []⟩, ⟨0, ⟨(some 8), none, (.new (.alloc [(.bool false), .nils])), []⟩, []⟩, ⟨0, ⟨(some 7), none, (.pure .id), [(.tmp 13)]⟩, []⟩, ⟨0, ⟨none, none, (.imp (.store 2)), [(.tmp 8), (.tmp 15)]⟩, []⟩]) (.seq (.region [⟨0, ⟨(some 16), none, (.pure (.faddr 1)), [(.tmp 8)]⟩, []⟩, ⟨0, ⟨(some 17), none, (.load (.load 1 false)), [(.tmp 16)]⟩, []⟩, ⟨0, ⟨(some 18), none, (.pure .id), [(.tmp 1)]⟩, []⟩, ⟨0, ⟨(some 19), none, (.call F_slices_Contains_int_int), [(.tmp 17), (.tmp 18)]⟩, []⟩]) (.cond (.tmp 19) (.seq (.region [⟨0, ⟨(some 20), none, (.pure .id), [(.tmp 7)]⟩, []⟩, ⟨1, ⟨(some 21), none, (.pure (.faddr 0)), [(.tmp 8)]⟩, []⟩, ⟨2, ⟨(some 22), none, (.load (.load 1 false)), [(.tmp 21)]⟩, []⟩, ⟨3, ⟨(some 4), none, (.pure .id), [(.tmp 20)]⟩, []⟩, ⟨4, ⟨(some 5), none, (.pure .id), [(.tmp 22)]⟩, []⟩, ⟨5, ⟨(some 6), none, (.pure .id), [(.const (.bool true))]⟩, []⟩]) .ret) .skip)))) (.region [⟨0, ⟨(some 23), none, (.pure (.bin .add .none)), [(.tmp 11), (.const (.int .i64 1))]⟩, []⟩, ⟨0, ⟨(some 11), none, (.pure .id), [(.tmp 23)]⟩, []⟩]))))))) (.seq (.region [⟨0, ⟨(some 4), none, (.pure .id), [(.const (.int .i64 0))]⟩, []⟩, ⟨0, ⟨(some 5), none, (.pure .id), [(.const (.bool false))]⟩, []⟩, ⟨0, ⟨(some 6), none, (.pure .id), [(.const (.bool false))]⟩, []⟩]) .ret)))⟩
theorem c_prefix_Find : compF Try.prog Try.f21 = some G_prefix_Find := by kernel_rfl
theorem gc_prefix_Find {args : List DV} {σ : GS} {Post : DV → GS → Prop} (h : @exB Try.prog ⟨G_prefix_Find.body⟩ (genv0 args G_prefix_Find.ntmps) σ ⟨@gretB G_prefix_Find.results ⟨Post⟩⟩) : GCall Try.prog F_prefix_Find args σ Post := gcall_ofB seatfollows Try.func21 (by kernel_rfl) c_prefix_Find h
noncomputable abbrev G_prefix_places : GFun := ⟨31, [(.tmp 2)], (.seq (.region [⟨0, ⟨(some 1), none, (.new .box), [(.tmp 0)]⟩, []⟩, ⟨0, ⟨(some 2), none, (.pure .id), [(.const .nilmap)]⟩, []⟩]) (.seq (.region [⟨0, ⟨(some 8), none, (.new .mmap), []⟩, []⟩, ⟨0, ⟨(some 3), none, (.new (.alloc [.nilmap])), []⟩, []⟩, ⟨0, ⟨none, none, (.imp (.store 1)), [(.tmp 3), (.tmp 8)]⟩, []⟩]) (.seq (.seq (.region [⟨0, ⟨(some 9), none, (.load (.load 1 false)), [(.tmp 1)]⟩, []⟩, ⟨0, ⟨(some 10), none, (.call F_prefix_each), [(.tmp 9)]⟩, []⟩]) (.block 0 (.rangeF (.tmp 10) [11, 12] (rngA Try.f42 0) (rngB Try.f42 0)))) (.seq (.region [⟨0, ⟨(some 30), none, (.load (.load 1 false)), [(.tmp 3)]⟩, []⟩, ⟨0, ⟨(some 2), none, (.pure .id), [(.tmp 30)]⟩, []⟩]) .ret))))⟩
theorem c_prefix_places : compF Try.prog Try.f42 = some G_prefix_places := by kernel_rfl
theorem gc_prefix_places {args : List DV} {σ : GS} {Post : DV → GS → Prop} (h : @exB Try.prog ⟨G_prefix_places.body⟩ (genv0 args G_prefix_places.ntmps) σ ⟨@gretB G_prefix_places.results ⟨Post⟩⟩) : GCall Try.prog F_prefix_places args σ Post := gcall_ofB seatfollows Try.func42 (by kernel_rfl) c_prefix_places h
noncomputable abbrev GA_prefix_places_0 : GCode := (.seq (.region [⟨0, ⟨(some 4), none, (.pure .id), [(.tmp 11)]⟩, []⟩]) (.region [⟨0, ⟨(some 5), none, (.pure .id), [(.tmp 12)]⟩, []⟩]))
theorem ca_prefix_places_0 : comp Try.prog (rngA Try.f42 0) = some GA_prefix_places_0 := by kernel_rfl
noncomputable abbrev GB_prefix_places_0 : GCode := (.block 1 (.seq (.region [⟨0, ⟨(some 14), none, (.load (.load 1 false)), [(.tmp 3)]⟩, []⟩, ⟨0, ⟨(some 15), none, (.pure .id), [(.tmp 5)]⟩, []⟩, ⟨0, ⟨(some 16), none, (.load (.lookup (.int .i64) (.agg [(.int .i64 0), (.bool false)]) true)), [(.tmp 14), (.tmp 15)]⟩, []⟩, ⟨0, ⟨(some 13), none, (.pure .id), [(.tmp 16)]⟩, []⟩, ⟨0, ⟨(some 17), none, (.pure (.extract 0)), [(.tmp 13)]⟩, []⟩, ⟨0, ⟨(some 18), none, (.pure (.extract 1)), [(.tmp 13)]⟩, []⟩, ⟨0, ⟨(some 6), none, (.new (.alloc [(.int .i64 0), (.bool false)])), []⟩, []⟩, ⟨0, ⟨none, none, (.imp (.store 2)), [(.tmp 6), (.tmp 17)]⟩, []⟩, ⟨0, ⟨(some 7), none, (.pure .id), [(.tmp 18)]⟩, []⟩]) (.seq (.region [⟨0, ⟨(some 19), none, (.pure .id), [(.tmp 7)]⟩, []⟩, ⟨0, ⟨(some 20), none, (.pure (.un .not)), [(.tmp 19)]⟩, []⟩]) (.cond (.tmp 20) (.region [⟨0, ⟨(some 21), none, (.load (.load 1 false)), [(.tmp 3)]⟩, []⟩, ⟨1, ⟨(some 22), none, (.pure .id), [(.tmp 5)]⟩, []⟩, ⟨2, ⟨(some 23), none, (.pure .id), [(.tmp 4)]⟩, []⟩, ⟨3, ⟨(some 24), none, (.load (.load 1 false)), [(.tmp 1)]⟩, []⟩, ⟨4, ⟨(some 25), none, (.pure .id), [(.tmp 4)]⟩, []⟩, ⟨5, ⟨(some 26), none, (.pure (.iaddr 2)), [(.tmp 24), (.tmp 25)]⟩, []⟩, ⟨6, ⟨(some 27), none, (.pure (.faddr 0)), [(.tmp 26)]⟩, []⟩, ⟨7, ⟨(some 28), none, (.load (.load 1 false)), [(.tmp 27)]⟩, []⟩, ⟨8, ⟨(some 29), none, (.pure (.build [(.int .i64 0), (.bool false)] [(0, 1), (1, 1)])), [(.tmp 23), (.tmp 28)]⟩, []⟩, ⟨9, ⟨none, none, (.imp (.mset (.int .i64))), [(.tmp 21), (.tmp 22), (.tmp 29)]⟩, []⟩]) .skip))))
theorem cb_prefix_places_0 : comp Try.prog (rngB Try.f42 0) = some GB_prefix_places_0 := by kernel_rfl
noncomputable abbrev G_prefix_abs : GFun := ⟨7, [(.tmp 2)], (.seq (.region [⟨0, ⟨(some 2), none, (.pure .id), [(.const (.int .i64 0))]⟩, []⟩]) (.seq (.region [⟨0, ⟨(some 3), none, (.pure .id), [(.tmp 0)]⟩, []⟩, ⟨0, ⟨(some 4), none, (.pure .id), [(.tmp 0)]⟩, []⟩, ⟨0, ⟨(some 5), none, (.pure (.un .neg)), [(.tmp 4)]⟩, []⟩, ⟨0, ⟨(some 6), none, (.pure .mx), [(.tmp 3), (.tmp 5)]⟩, []⟩, ⟨0, ⟨(some 2), none, (.pure .id), [(.tmp 6)]⟩, []⟩]) .ret))⟩
theorem c_prefix_abs : compF Try.prog Try.f43 = some G_prefix_abs := by kernel_rfl
theorem gc_prefix_abs {args : List DV} {σ : GS} {Post : DV → GS → Prop} (h : @exB Try.prog ⟨G_prefix_abs.body⟩ (genv0 args G_prefix_abs.ntmps) σ ⟨@gretB G_prefix_abs.results ⟨Post⟩⟩) : GCall Try.prog F_prefix_abs args σ Post := gcall_ofB seatfollows Try.func43 (by kernel_rfl) c_prefix_abs h
noncomputable abbrev G_prefix_last : GFun := ⟨42, [(.tmp 6)], (.seq (.region [⟨0, ⟨(some 6), none, (.pure .id), [(.const (.int .i64 0))]⟩, []⟩]) (.seq (.region [⟨0, ⟨(some 7), none, (.pure .id), [(.const (.int .i64 (-1)))]⟩, []⟩]) (.seq (.seq (.region [⟨0, ⟨(some 12), none, (.pure .id), [(.tmp 1)]⟩, []⟩, ⟨0, ⟨(some 13), none, (.pure .len), [(.tmp 12)]⟩, []⟩, ⟨0, ⟨(some 14), none, (.pure .id), [(.const (.int .i64 0))]⟩, []⟩]) (.block 0 (.loop (.seq (.region [⟨0, ⟨(some 15), none, (.pure (.bin .lss .none)), [(.tmp 14), (.tmp 13)]⟩, []⟩]) (.seq (.cond (.tmp 15) .skip (.exit 0)) (.seq (.block 1 (.seq (.region [⟨0, ⟨(some 16), none, (.pure (.iaddr 1)), [(.tmp 12), (.tmp 14)]⟩, []⟩, ⟨0, ⟨(some 17), none, (.load (.load 1 false)), [(.tmp 16)]⟩, []⟩, ⟨0, ⟨(some 9), none, (.pure .id), [(.tmp 17)]⟩, []⟩]) (.seq (.region [⟨0, ⟨(some 19), none, (.pure .id), [(.tmp 0)]⟩, []⟩, ⟨0, ⟨(some 20), none, (.pure .id), [(.tmp 9)]⟩, []⟩, ⟨0, ⟨(some 21), none, (.call F_prefix_abs), [(.tmp 20)]⟩, []⟩, ⟨0, ⟨(some 22), none, (.load (.lookup (.int .i64) (.agg [(.int .i64 0), (.bool false)]) true)), [(.tmp 19), (.tmp 21)]⟩, []⟩, ⟨0, ⟨(some 18), none, (.pure .id), [(.tmp 22)]⟩, []⟩, ⟨0, ⟨(some 23), none, (.pure (.extract 0)), [(.tmp 18)]⟩, []⟩, ⟨0, ⟨(some 24), none, (.pure (.extract 1)), [(.tmp 18)]⟩, []⟩, ⟨0, ⟨(some 10), none, (.new (.alloc [(.int .i64 0), (.bool false)])), []⟩, []⟩, ⟨0, ⟨none, none, (.imp (.store 2)), [(.tmp 10), (.tmp 23)]⟩, []⟩, ⟨0, ⟨(some 11), none, (.pure .id), [(.tmp 24)]⟩, []⟩]) (.seq (.region [⟨0, ⟨(some 25), none, (.pure .id), [(.tmp 11)]⟩, []⟩, ⟨0, ⟨(some 26), none, (.pure .id), [(.tmp 25)]⟩, []⟩, ⟨0, ⟨(some 27), (some (26, true)), (.pure .id), [(.tmp 9)]⟩, []⟩, ⟨0, ⟨(some 28), (some (26, true)), (.pure (.bin .neq .none)), [(.tmp 27), (.const (.int .i64 (-9223372036854775808)))]⟩, []⟩, ⟨0, ⟨(some 29), none, (.pure .pick), [(.tmp 26), (.tmp 28), (.const (.bool false))]⟩, []⟩, ⟨0, ⟨(some 30), none, (.pure .id), [(.tmp 29)]⟩, []⟩, ⟨0, ⟨(some 31), (some (30, true)), (.pure (.faddr 1)), [(.tmp 10)]⟩, []⟩, ⟨0, ⟨(some 32), (some (30, true)), (.load (.load 1 false)), [(.tmp 31)]⟩, []⟩, ⟨0, ⟨(some 33), (some (30, true)), (.pure .id), [(.tmp 2)]⟩, []⟩, ⟨0, ⟨(some 34), (some (30, true)), (.pure (.bin .eql .bool)), [(.tmp 32), (.tmp 33)]⟩, []⟩, ⟨0, ⟨(some 35), none, (.pure .pick), [(.tmp 30), (.tmp 34), (.const (.bool false))]⟩, []⟩]) (.cond (.tmp 35) (.region [⟨0, ⟨(some 36), none, (.pure .id), [(.tmp 7)]⟩, []⟩, ⟨0, ⟨(some 37), none, (.pure (.faddr 0)), [(.tmp 10)]⟩, []⟩, ⟨0, ⟨(some 38), none, (.load (.load 1 false)), [(.tmp 37)]⟩, []⟩, ⟨0, ⟨(some 39), none, (.pure .mx), [(.tmp 36), (.tmp 38)]⟩, []⟩, ⟨0, ⟨(some 7), none, (.pure .id), [(.tmp 39)]⟩, []⟩]) .skip))))) (.region [⟨0, ⟨(some 40), none, (.pure (.bin .add .none)), [(.tmp 14), (.const (.int .i64 1))]⟩, []⟩, ⟨0, ⟨(some 14), none, (.pure .id), [(.tmp 40)]⟩, []⟩]))))))) (.seq (.region [⟨0, ⟨(some 41), none, (.pure .id), [(.tmp 7)]⟩, []⟩, ⟨0, ⟨(some 6), none, (.pure .id), [(.tmp 41)]⟩, []⟩]) .ret))))⟩
theorem c_prefix_last : compF Try.prog Try.f53 = some G_prefix_last := by kernel_rfl
theorem gc_prefix_last {args : List DV} {σ : GS} {Post : DV → GS → Prop} (h : @exB Try.prog ⟨G_prefix_last.body⟩ (genv0 args G_prefix_last.ntmps) σ ⟨@gretB G_prefix_last.results ⟨Post⟩⟩) : GCall Try.prog F_prefix_last args σ Post := gcall_ofB seatfollows Try.func53 (by kernel_rfl) c_prefix_last h
noncomputable abbrev G_prefix_Reduce : GFun := ⟨20, [(.tmp 6)], (.seq (.region [⟨0, ⟨(some 5), none, (.new .box), [(.tmp 2)]⟩, []⟩, ⟨0, ⟨(some 6), none, (.pure .id), [(.const .nils)]⟩, []⟩]) (.seq (.region [⟨0, ⟨(some 9), none, (.pure .id), [(.tmp 0)]⟩, []⟩, ⟨0, ⟨(some 10), none, (.call F_prefix_places), [(.tmp 9)]⟩, []⟩, ⟨0, ⟨(some 7), none, (.new (.alloc [.nilmap])), []⟩, []⟩, ⟨0, ⟨none, none, (.imp (.store 1)), [(.tmp 7), (.tmp 10)]⟩, []⟩]) (.seq (.region [⟨0, ⟨(some 11), none, (.load (.load 1 false)), [(.tmp 7)]⟩, []⟩, ⟨0, ⟨(some 12), none, (.pure .id), [(.tmp 1)]⟩, []⟩, ⟨0, ⟨(some 13), none, (.load (.load 1 false)), [(.tmp 5)]⟩, []⟩, ⟨0, ⟨(some 14), none, (.pure (.un .not)), [(.tmp 13)]⟩, []⟩, ⟨0, ⟨(some 15), none, (.call F_prefix_last), [(.tmp 11), (.tmp 12), (.tmp 14)]⟩, []⟩, ⟨0, ⟨(some 8), none, (.new (.alloc [(.int .i64 0)])), []⟩, []⟩, ⟨0, ⟨none, none, (.imp (.store 1)), [(.tmp 8), (.tmp 15)]⟩, []⟩]) (.seq (.region [⟨0, ⟨(some 16), none, (.pure .id), [(.tmp 1)]⟩, []⟩, ⟨0, ⟨(some 17), none, (.call F_slices_Clone_int_int), [(.tmp 16)]⟩, []⟩, ⟨0, ⟨(some 18), none, (.pure (.mkfunc F_prefix_Reduce_1 0)), [(.tmp 7), (.tmp 5), (.tmp 8)]⟩, []⟩, ⟨0, ⟨(some 19), none, (.call F_slices_DeleteFunc_int_int), [(.tmp 17), (.tmp 18)]⟩, []⟩, ⟨0, ⟨(some 6), none, (.pure .id), [(.tmp 19)]⟩, []⟩]) .ret))))⟩
theorem c_prefix_Reduce : compF Try.prog Try.f23 = some G_prefix_Reduce := by kernel_rfl
theorem gc_prefix_Reduce {args : List DV} {σ : GS} {Post : DV → GS → Prop} (h : @exB Try.prog ⟨G_prefix_Reduce.body⟩ (genv0 args G_prefix_Reduce.ntmps) σ ⟨@gretB G_prefix_Reduce.results ⟨Post⟩⟩) : GCall Try.prog F_prefix_Reduce args σ Post := gcall_ofB seatfollows Try.func23 (by kernel_rfl) c_prefix_Reduce h
noncomputable abbrev G_prefix_Reduce_1 : GFun := ⟨32, [(.tmp 5)], (.seq (.region [⟨0, ⟨(some 5), none, (.pure .id), [(.const (.bool false))]⟩, []⟩]) (.seq (.region [⟨0, ⟨(some 9), none, (.load (.load 1 false)), [(.tmp 1)]⟩, []⟩, ⟨1, ⟨(some 10), none, (.pure .id), [(.tmp 0)]⟩, []⟩, ⟨7, ⟨(some 6), none, (.new (.alloc [(.int .i64 0), (.bool false)])), []⟩, []⟩, ⟨2, ⟨(some 11), none, (.call F_prefix_abs), [(.tmp 10)]⟩, [⟨(some 9), none, (.load (.load 1 false)), [(.tmp 1)]⟩, ⟨(some 6), none, (.new (.alloc [(.int .i64 0), (.bool false)])), []⟩]⟩, ⟨3, ⟨(some 12), none, (.load (.lookup (.int .i64) (.agg [(.int .i64 0), (.bool false)]) true)), [(.tmp 9), (.tmp 11)]⟩, []⟩, ⟨4, ⟨(some 8), none, (.pure .id), [(.tmp 12)]⟩, []⟩, ⟨5, ⟨(some 13), none, (.pure (.extract 0)), [(.tmp 8)]⟩, []⟩, ⟨6, ⟨(some 14), none, (.pure (.extract 1)), [(.tmp 8)]⟩, []⟩, ⟨8, ⟨none, none, (.imp (.store 2)), [(.tmp 6), (.tmp 13)]⟩, []⟩, ⟨9, ⟨(some 7), none, (.pure .id), [(.tmp 14)]⟩, []⟩]) (.seq (.region [⟨0, ⟨(some 15), none, (.pure .id), [(.tmp 7)]⟩, []⟩, ⟨0, ⟨(some 16), none, (.pure .id), [(.tmp 15)]⟩, []⟩, ⟨0, ⟨(some 17), (some (16, true)), (.pure .id), [(.tmp 0)]⟩, []⟩, ⟨0, ⟨(some 18), (some (16, true)), (.pure (.bin .neq .none)), [(.tmp 17), (.const (.int .i64 (-9223372036854775808)))]⟩, []⟩, ⟨0, ⟨(some 19), none, (.pure .pick), [(.tmp 16), (.tmp 18), (.const (.bool false))]⟩, []⟩, ⟨0, ⟨(some 20), none, (.pure .id), [(.tmp 19)]⟩, []⟩, ⟨0, ⟨(some 21), (some (20, true)), (.pure (.faddr 1)), [(.tmp 6)]⟩, []⟩, ⟨0, ⟨(some 22), (some (20, true)), (.load (.load 1 false)), [(.tmp 21)]⟩, []⟩, ⟨0, ⟨(some 23), (some (20, true)), (.load (.load 1 false)), [(.tmp 2)]⟩, []⟩, ⟨0, ⟨(some 24), (some (20, true)), (.pure (.bin .eql .bool)), [(.tmp 22), (.tmp 23)]⟩, []⟩, ⟨0, ⟨(some 25), none, (.pure .pick), [(.tmp 20), (.tmp 24), (.const (.bool false))]⟩, []⟩, ⟨0, ⟨(some 26), none, (.pure .id), [(.tmp 25)]⟩, []⟩, ⟨0, ⟨(some 27), (some (26, true)), (.pure (.faddr 0)), [(.tmp 6)]⟩, []⟩, ⟨0, ⟨(some 28), (some (26, true)), (.load (.load 1 false)), [(.tmp 27)]⟩, []⟩, ⟨0, ⟨(some 29), (some (26, true)), (.load (.load 1 false)), [(.tmp 3)]⟩, []⟩, ⟨0, ⟨(some 30), (some (26, true)), (.pure (.bin .gtr .none)), [(.tmp 28), (.tmp 29)]⟩, []⟩, ⟨0, ⟨(some 31), none, (.pure .pick), [(.tmp 26), (.tmp 30), (.const (.bool false))]⟩, []⟩, ⟨0, ⟨(some 5), none, (.pure .id), [(.tmp 31)]⟩, []⟩]) .ret)))⟩
theorem c_prefix_Reduce_1 : compF Try.prog Try.f54 = some G_prefix_Reduce_1 := by kernel_rfl
theorem gc_prefix_Reduce_1 {args : List DV} {σ : GS} {Post : DV → GS → Prop} (h : @exB Try.prog ⟨G_prefix_Reduce_1.body⟩ (genv0 args G_prefix_Reduce_1.ntmps) σ ⟨@gretB G_prefix_Reduce_1.results ⟨Post⟩⟩) : GCall Try.prog F_prefix_Reduce_1 args σ Post := gcall_ofB seatfollows Try.func54 (by kernel_rfl) c_prefix_Reduce_1 h
noncomputable abbrev G_slices_DeleteFunc_int_int : GFun := ⟨42, [(.tmp 4)], (.seq (.region [⟨0, ⟨(some 4), none, (.pure .id), [(.const .nils)]⟩, []⟩]) (.seq (.region [⟨0, ⟨(some 8), none, (.pure .id), [(.tmp 0)]⟩, []⟩, ⟨0, ⟨(some 9), none, (.pure .id), [(.tmp 1)]⟩, []⟩, ⟨0, ⟨(some 10), none, (.call F_slices_IndexFunc_int_int), [(.tmp 8), (.tmp 9)]⟩, []⟩, ⟨0, ⟨(some 5), none, (.pure .id), [(.tmp 10)]⟩, []⟩]) (.seq (.seq (.region [⟨0, ⟨(some 11), none, (.pure .id), [(.tmp 5)]⟩, []⟩, ⟨0, ⟨(some 12), none, (.pure (.bin .eql .none)), [(.tmp 11), (.const (.int .i64 (-1)))]⟩, []⟩]) (.cond (.tmp 12) (.seq (.region [⟨0, ⟨(some 13), none, (.pure .id), [(.tmp 0)]⟩, []⟩, ⟨0, ⟨(some 4), none, (.pure .id), [(.tmp 13)]⟩, []⟩]) .ret) .skip)) (.seq (.seq (.region [⟨0, ⟨(some 14), none, (.pure .id), [(.tmp 5)]⟩, []⟩, ⟨0, ⟨(some 15), none, (.pure (.bin .add .none)), [(.tmp 14), (.const (.int .i64 1))]⟩, []⟩, ⟨0, ⟨(some 6), none, (.pure .id), [(.tmp 15)]⟩, []⟩]) (.block 0 (.loop (.seq (.seq (.region [⟨0, ⟨(some 16), none, (.pure .id), [(.tmp 6)]⟩, []⟩, ⟨0, ⟨(some 17), none, (.pure .id), [(.tmp 0)]⟩, []⟩, ⟨0, ⟨(some 18), none, (.pure .len), [(.tmp 17)]⟩, []⟩, ⟨0, ⟨(some 19), none, (.pure (.bin .lss .none)), [(.tmp 16), (.tmp 18)]⟩, []⟩]) (.cond (.tmp 19) .skip (.exit 0))) (.seq (.block 1 (.seq (.region [⟨0, ⟨(some 22), none, (.pure .id), [(.tmp 0)]⟩, []⟩, ⟨0, ⟨(some 23), none, (.pure .id), [(.tmp 6)]⟩, []⟩, ⟨0, ⟨(some 24), none, (.pure (.iaddr 1)), [(.tmp 22), (.tmp 23)]⟩, []⟩, ⟨0, ⟨(some 25), none, (.load (.load 1 false)), [(.tmp 24)]⟩, []⟩, ⟨0, ⟨(some 7), none, (.pure .id), [(.tmp 25)]⟩, []⟩]) (.seq (.region [⟨0, ⟨(some 26), none, (.pure .id), [(.tmp 1)]⟩, []⟩, ⟨0, ⟨(some 27), none, (.pure .id), [(.tmp 7)]⟩, []⟩, ⟨0, ⟨(some 28), none, .callv, [(.tmp 26), (.tmp 27)]⟩, []⟩, ⟨0, ⟨(some 29), none, (.pure (.un .not)), [(.tmp 28)]⟩, []⟩]) (.cond (.tmp 29) (.seq (.region [⟨0, ⟨(some 30), none, (.pure .id), [(.tmp 0)]⟩, []⟩, ⟨0, ⟨(some 31), none, (.pure .id), [(.tmp 5)]⟩, []⟩, ⟨0, ⟨(some 32), none, (.pure .id), [(.tmp 7)]⟩, []⟩, ⟨0, ⟨(some 33), none, (.pure (.iaddr 1)), [(.tmp 30), (.tmp 31)]⟩, []⟩, ⟨0, ⟨none, none, (.imp (.store 1)), [(.tmp 33), (.tmp 32)]⟩, []⟩]) (.region [⟨0, ⟨(some 34), none, (.pure .id), [(.tmp 5)]⟩, []⟩, ⟨0, ⟨(some 35), none, (.pure (.bin .add .none)), [(.tmp 34), (.const (.int .i64 1))]⟩, []⟩, ⟨0, ⟨(some 5), none, (.pure .id), [(.tmp 35)]⟩, []⟩])) .skip)))) (.region [⟨0, ⟨(some 20), none, (.pure .id), [(.tmp 6)]⟩, []⟩, ⟨0, ⟨(some 21), none, (.pure (.bin .add .none)), [(.tmp 20), (.const (.int .i64 1))]⟩, []⟩, ⟨0, ⟨(some 6), none, (.pure .id), [(.tmp 21)]⟩, []⟩])))))) (.seq (.region [⟨0, ⟨(some 36), none, (.pure .id), [(.tmp 0)]⟩, []⟩, ⟨0, ⟨(some 37), none, (.pure .id), [(.tmp 5)]⟩, []⟩, ⟨0, ⟨(some 38), none, (.pure (.slice 1 true false false)), [(.tmp 36), (.tmp 37)]⟩, []⟩, ⟨0, ⟨none, none, (.imp (.clear 1 [(.int .i64 0)])), [(.tmp 38)]⟩, []⟩]) (.seq (.region [⟨0, ⟨(some 39), none, (.pure .id), [(.tmp 0)]⟩, []⟩, ⟨0, ⟨(some 40), none, (.pure .id), [(.tmp 5)]⟩, []⟩, ⟨0, ⟨(some 41), none, (.pure (.slice 1 false true false)), [(.tmp 39), (.tmp 40)]⟩, []⟩, ⟨0, ⟨(some 4), none, (.pure .id), [(.tmp 41)]⟩, []⟩]) .ret))))))⟩
theorem c_slices_DeleteFunc_int_int : compF Try.prog Try.f37 = some G_slices_DeleteFunc_int_int := by kernel_rfl
theorem gc_slices_DeleteFunc_int_int {args : List DV} {σ : GS} {Post : DV → GS → Prop} (h : @exB Try.prog ⟨G_slices_DeleteFunc_int_int.body⟩ (genv0 args G_slices_DeleteFunc_int_int.ntmps) σ ⟨@gretB G_slices_DeleteFunc_int_int.results ⟨Post⟩⟩) : GCall Try.prog F_slices_DeleteFunc_int_int args σ Post := gcall_ofB seatfollows Try.func37 (by kernel_rfl) c_slices_DeleteFunc_int_int h
noncomputable abbrev G_slices_IndexFunc_int_int : GFun := ⟨19, [(.tmp 4)], (.seq (.region [⟨0, ⟨(some 4), none, (.pure .id), [(.const (.int .i64 0))]⟩, []⟩]) (.seq (.seq (.region [⟨0, ⟨(some 6), none, (.pure .id), [(.tmp 0)]⟩, []⟩, ⟨0, ⟨(some 7), none, (.pure .len), [(.tmp 6)]⟩, []⟩, ⟨0, ⟨(some 8), none, (.pure .id), [(.const (.int .i64 0))]⟩, []⟩]) (.block 0 (.loop (.seq (.region [⟨0, ⟨(some 9), none, (.pure (.bin .lss .none)), [(.tmp 8), (.tmp 7)]⟩, []⟩]) (.seq (.cond (.tmp 9) .skip (.exit 0)) (.seq (.block 1 (.seq (.region [⟨0, ⟨(some 10), none, (.pure .id), [(.tmp 8)]⟩, []⟩, ⟨0, ⟨(some 5), none, (.pure .id), [(.tmp 10)]⟩, []⟩]) (.seq (.region [⟨0, ⟨(some 11), none, (.pure .id), [(.tmp 1)]⟩, []⟩, ⟨0, ⟨(some 12), none, (.pure .id), [(.tmp 0)]⟩, []⟩, ⟨0, ⟨(some 13), none, (.pure .id), [(.tmp 5)]⟩, []⟩, ⟨0, ⟨(some 14), none, (.pure (.iaddr 1)), [(.tmp 12), (.tmp 13)]⟩, []⟩, ⟨0, ⟨(some 15), none, (.load (.load 1 false)), [(.tmp 14)]⟩, []⟩, ⟨0, ⟨(some 16), none, .callv, [(.tmp 11), (.tmp 15)]⟩, []⟩]) (.cond (.tmp 16) (.seq (.region [⟨0, ⟨(some 17), none, (.pure .id), [(.tmp 5)]⟩, []⟩, ⟨0, ⟨(some 4), none, (.pure .id), [(.tmp 17)]⟩, []⟩]) .ret) .skip)))) (.region [⟨0, ⟨(some 18), none, (.pure (.bin .add .none)), [(.tmp 8), (.const (.int .i64 1))]⟩, []⟩, ⟨0, ⟨(some 8), none, (.pure .id), [(.tmp 18)]⟩, []⟩]))))))) (.seq (.region [⟨0, ⟨(some 4), none, (.pure .id), [(.const (.int .i64 (-1)))]⟩, []⟩]) .ret)))⟩
theorem c_slices_IndexFunc_int_int : compF Try.prog Try.f68 = some G_slices_IndexFunc_int_int := by kernel_rfl
theorem gc_slices_IndexFunc_int_int {args : List DV} {σ : GS} {Post : DV → GS → Prop} (h : @exB Try.prog ⟨G_slices_IndexFunc_int_int.body⟩ (genv0 args G_slices_IndexFunc_int_int.ntmps) σ ⟨@gretB G_slices_IndexFunc_int_int.results ⟨Post⟩⟩) : GCall Try.prog F_slices_IndexFunc_int_int args σ Post := gcall_ofB seatfollows Try.func68 (by kernel_rfl) c_slices_IndexFunc_int_int h
noncomputable abbrev G_slices_Clone_int_int : GFun := ⟨8, [(.tmp 2)], (.seq (.region [⟨0, ⟨(some 2), none, (.pure .id), [(.const .nils)]⟩, []⟩]) (.seq (.seq (.region [⟨0, ⟨(some 3), none, (.pure .id), [(.tmp 0)]⟩, []⟩, ⟨0, ⟨(some 4), none, (.eqn false), [(.tmp 3), (.const .nils)]⟩, []⟩]) (.cond (.tmp 4) (.seq (.region [⟨0, ⟨(some 2), none, (.pure .id), [(.const .nils)]⟩, []⟩]) .ret) .skip)) (.seq (.region [⟨0, ⟨(some 5), none, (.new (.bslice 1 [(.int .i64 0)] 0 [])), []⟩, []⟩, ⟨0, ⟨(some 6), none, (.pure .id), [(.tmp 0)]⟩, []⟩, ⟨0, ⟨(some 7), none, (.imp (.append 1 8)), [(.tmp 5), (.tmp 6)]⟩, []⟩, ⟨0, ⟨(some 2), none, (.pure .id), [(.tmp 7)]⟩, []⟩]) .ret)))⟩
theorem c_slices_Clone_int_int : compF Try.prog Try.f38 = some G_slices_Clone_int_int := by kernel_rfl
theorem gc_slices_Clone_int_int {args : List DV} {σ : GS} {Post : DV → GS → Prop} (h : @exB Try.prog ⟨G_slices_Clone_int_int.body⟩ (genv0 args G_slices_Clone_int_int.ntmps) σ ⟨@gretB G_slices_Clone_int_int.results ⟨Post⟩⟩) : GCall Try.prog F_slices_Clone_int_int args σ Post := gcall_ofB seatfollows Try.func38 (by kernel_rfl) c_slices_Clone_int_int h
noncomputable abbrev G_slices_Contains_int_int : GFun := ⟨9, [(.tmp 4)], (.seq (.region [⟨0, ⟨(some 4), none, (.pure .id), [(.const (.bool false))]⟩, []⟩]) (.seq (.region [⟨0, ⟨(some 5), none, (.pure .id), [(.tmp 0)]⟩, []⟩, ⟨0, ⟨(some 6), none, (.pure .id), [(.tmp 1)]⟩, []⟩, ⟨0, ⟨(some 7), none, (.call F_slices_Index_int_int), [(.tmp 5), (.tmp 6)]⟩, []⟩, ⟨0, ⟨(some 8), none, (.pure (.bin .geq .none)), [(.tmp 7), (.const (.int .i64 0))]⟩, []⟩, ⟨0, ⟨(some 4), none, (.pure .id), [(.tmp 8)]⟩, []⟩]) .ret))⟩
theorem c_slices_Contains_int_int : compF Try.prog Try.f52 = some G_slices_Contains_int_int := by kernel_rfl
theorem gc_slices_Contains_int_int {args : List DV} {σ : GS} {Post : DV → GS → Prop} (h : @exB Try.prog ⟨G_slices_Contains_int_int.body⟩ (genv0 args G_slices_Contains_int_int.ntmps) σ ⟨@gretB G_slices_Contains_int_int.results ⟨Post⟩⟩) : GCall Try.prog F_slices_Contains_int_int args σ Post := gcall_ofB seatfollows Try.func52 (by kernel_rfl) c_slices_Contains_int_int h
noncomputable abbrev G_slices_Index_int_int : GFun := ⟨19, [(.tmp 4)], (.seq (.region [⟨0, ⟨(some 4), none, (.pure .id), [(.const (.int .i64 0))]⟩, []⟩]) (.seq (.seq (.region [⟨0, ⟨(some 6), none, (.pure .id), [(.tmp 0)]⟩, []⟩, ⟨0, ⟨(some 7), none, (.pure .len), [(.tmp 6)]⟩, []⟩, ⟨0, ⟨(some 8), none, (.pure .id), [(.const (.int .i64 0))]⟩, []⟩]) (.block 0 (.loop (.seq (.region [⟨0, ⟨(some 9), none, (.pure (.bin .lss .none)), [(.tmp 8), (.tmp 7)]⟩, []⟩]) (.seq (.cond (.tmp 9) .skip (.exit 0)) (.seq (.block 1 (.seq (.region [⟨0, ⟨(some 10), none, (.pure .id), [(.tmp 8)]⟩, []⟩, ⟨0, ⟨(some 5), none, (.pure .id), [(.tmp 10)]⟩, []⟩]) (.seq (.region [⟨0, ⟨(some 11), none, (.pure .id), [(.tmp 1)]⟩, []⟩, ⟨0, ⟨(some 12), none, (.pure .id), [(.tmp 0)]⟩, []⟩, ⟨0, ⟨(some 13), none, (.pure .id), [(.tmp 5)]⟩, []⟩, ⟨0, ⟨(some 14), none, (.pure (.iaddr 1)), [(.tmp 12), (.tmp 13)]⟩, []⟩, ⟨0, ⟨(some 15), none, (.load (.load 1 false)), [(.tmp 14)]⟩, []⟩, ⟨0, ⟨(some 16), none, (.pure (.bin .eql .none)), [(.tmp 11), (.tmp 15)]⟩, []⟩]) (.cond (.tmp 16) (.seq (.region [⟨0, ⟨(some 17), none, (.pure .id), [(.tmp 5)]⟩, []⟩, ⟨0, ⟨(some 4), none, (.pure .id), [(.tmp 17)]⟩, []⟩]) .ret) .skip)))) (.region [⟨0, ⟨(some 18), none, (.pure (.bin .add .none)), [(.tmp 8), (.const (.int .i64 1))]⟩, []⟩, ⟨0, ⟨(some 8), none, (.pure .id), [(.tmp 18)]⟩, []⟩]))))))) (.seq (.region [⟨0, ⟨(some 4), none, (.pure .id), [(.const (.int .i64 (-1)))]⟩, []⟩]) .ret)))⟩
theorem c_slices_Index_int_int : compF Try.prog Try.f74 = some G_slices_Index_int_int := by kernel_rfl
theorem gc_slices_Index_int_int {args : List DV} {σ : GS} {Post : DV → GS → Prop} (h : @exB Try.prog ⟨G_slices_Index_int_int.body⟩ (genv0 args G_slices_Index_int_int.ntmps) σ ⟨@gretB G_slices_Index_int_int.results ⟨Post⟩⟩) : GCall Try.prog F_slices_Index_int_int args σ Post := gcall_ofB seatfollows Try.func74 (by kernel_rfl) c_slices_Index_int_int h
end Go.Gh
namespace Go.Gh
open Go.RowKit Go.Proofs
set_option linter.unusedVariables false
set_option linter.unusedSimpArgs false
set_option maxRecDepth 100000
theorem r_Ints_ok {xs ys : List Int} {σ : GS} {Post : DV → GS → Prop} (hl : xs.length < 2 ^ 60) (h : Post (.bool (decide (xs = ys))) σ) : GCall Try.prog F_skolemref03_Ints [fints xs, fints ys] σ Post := by
  refine gc_skolemref03_Ints ?_
  by_cases hlen : xs.length = ys.length
  rotate_left
  · have hne : xs ≠ ys := fun e => hlen (by rw [e])
    have hlen' : ¬ ((xs.length : Int) = ys.length) := by omega
    simp [G_skolemref03_Ints, genv0, List.replicate, hlen']
    simpa [hne] using h
  simp [G_skolemref03_Ints, genv0, List.replicate, hlen]
  refine gfor xs.length (fun i e σ' => σ' = σ ∧ (xs = ys ↔ xs.drop i = ys.drop i) ∧ e = mkEnv 26 [(0, fints xs), (1, fints ys), (5, .int .i64 i)]) _ ?_ ⟨rfl, by simp, rfl⟩ ?_
  · simp [mkEnv, List.replicate]
  rintro i _ _ hi ⟨rfl, hI, rfl⟩
  simp [mkEnv, List.replicate]
  by_cases hlt : i < xs.length
  · obtain ⟨x, hx⟩ := nth_lt hlt
    obtain ⟨y, hy⟩ := nth_lt (l := ys) (i := i) (by omega)
    rw [drop_get hx, drop_get hy, List.cons.injEq] at hI
    have es : IntKind.i64.wrap ((i : Int) + 1) = (i : Int) + 1 := by rw [wrap_small] <;> omega
    by_cases c : x = y
    · simp [hlt, hx, hy, c, es]
      exact forK_go _ hlt (by simp [mkEnv, List.replicate]) ⟨rfl, by rw [hI]; simp [c], rfl⟩
    · have hne : xs ≠ ys := fun e => c (hI.1 e).1
      simp [hlt, hx, hy, c]
      simpa [hne] using h
  · have : i = xs.length := by omega
    subst this
    have he : xs = ys := hI.2 (by rw [List.drop_length, hlen, List.drop_length])
    simp
    simpa [he] using h
end Go.Gh
namespace Go.Gh
open Go.RowKit Go.Proofs
set_option linter.unusedVariables false
set_option linter.unusedSimpArgs false
set_option maxRecDepth 100000
/-- Whatever it says of the size. -/
theorem l_wide_any {p : List Blk} {c : List (List Int)} {most : Int} {σ : GS} {Post : DV → GS → Prop} (hp : p.length < 2 ^ 60) (hc : c.length < 2 ^ 60) (h : ∀ b, Post (.bool b) σ) : GCall Try.prog F_skolemlaw03_wide [fblks p, fcls c, .int .i64 most] σ Post := by
  refine gc_skolemlaw03_wide ?_
  simp [G_skolemlaw03_wide, genv0, List.replicate]
  refine gfor p.length (fun i e σ' => σ' = σ ∧ ∃ n, e = mkEnv 45 [(0, fblks p), (1, fcls c), (2, .int .i64 most), (7, .int .i64 n), (8, .int .i64 i)]) _ ?_ ⟨rfl, IntKind.i64.wrap ((p.length : Int) + c.length), rfl⟩ ?_
  · simp [mkEnv, List.replicate]
  rintro i _ σ hi ⟨rfl, n, rfl⟩
  simp [mkEnv, List.replicate]
  by_cases hlt : i < p.length
  · obtain ⟨x, hx⟩ := nth_lt hlt
    have es : IntKind.i64.wrap ((i : Int) + 1) = (i : Int) + 1 := by rw [wrap_small] <;> omega
    simp [hlt, hx, es]
    exact forK_go _ hlt (by simp [mkEnv, List.replicate]) ⟨rfl, IntKind.i64.wrap (n + x.2.length), rfl⟩
  have : i = p.length := by omega
  subst this
  simp
  refine gfor c.length (fun i e σ' => σ' = σ ∧ ∃ n, e = mkEnv 45 [(1, fcls c), (2, .int .i64 most), (7, .int .i64 n), (9, .int .i64 i)]) _ ?_ ⟨rfl, n, rfl⟩ ?_
  · simp [mkEnv, List.replicate]
  rintro i _ _ hi ⟨rfl, n, rfl⟩
  simp [mkEnv, List.replicate]
  by_cases hlt : i < c.length
  · obtain ⟨x, hx⟩ := nth_lt hlt
    have es : IntKind.i64.wrap ((i : Int) + 1) = (i : Int) + 1 := by rw [wrap_small] <;> omega
    simp [hlt, hx, es]
    exact forK_go _ hlt (by simp [mkEnv, List.replicate]) ⟨rfl, IntKind.i64.wrap (n + x.length), rfl⟩
  have : i = c.length := by omega
  subst this
  simp
  exact h _
end Go.Gh
namespace Go.Gh
open Go.RowKit Go.Proofs
set_option linter.unusedVariables false
set_option linter.unusedSimpArgs false
set_option maxRecDepth 100000
theorem r_Has_ok {a : List Int} {x : Int} {σ : GS} {Post : DV → GS → Prop} (hl : a.length < 2 ^ 60) (h : Post (.bool (a.contains x)) σ) : GCall Try.prog F_skolemref03_Has [fints a, .int .i64 x] σ Post := by
  refine gc_skolemref03_Has ?_
  simp [G_skolemref03_Has, genv0, List.replicate]
  refine gfor a.length (fun i e σ' => σ' = σ ∧ a.contains x = (a.drop i).contains x ∧ e = mkEnv 18 [(0, fints a), (1, .int .i64 x), (5, .int .i64 i)]) _ ?_ ⟨rfl, by simp, rfl⟩ ?_
  · simp [mkEnv, List.replicate]
  rintro i _ _ hi ⟨rfl, hI, rfl⟩
  simp [mkEnv, List.replicate]
  by_cases hlt : i < a.length
  · obtain ⟨y, hy⟩ := nth_lt hlt
    rw [drop_get hy, List.contains_cons] at hI
    have es : IntKind.i64.wrap ((i : Int) + 1) = (i : Int) + 1 := by rw [wrap_small] <;> omega
    by_cases c : y = x
    · have c' : (x == y) = true := by simp [c]
      simp [hlt, hy, c]
      rw [hI, c'] at h; simpa using h
    · have c' : (x == y) = false := by simpa using fun e => c e.symm
      simp [hlt, hy, c, es]
      exact forK_go _ hlt (by simp [mkEnv, List.replicate]) ⟨rfl, by rw [hI, c']; simp, rfl⟩
  · have : i = a.length := by omega
    subst this
    simp
    rw [hI] at h; simpa using h
theorem r_single_ok {l : List Int} {σ : GS} {Post : DV → GS → Prop} (hl : l.length < 2 ^ 60) (h : Post (.bool (singleS [] l)) σ) : GCall Try.prog F_skolemref03_single [fints l] σ Post := by
  refine gc_skolemref03_single ?_
  simp [G_skolemref03_single, genv0, List.replicate]
  refine gfor l.length (fun i e σ' => σ' = σ ∧ singleS [] l = singleS (l.take i) (l.drop i) ∧ e = mkEnv 32 [(0, fints l), (3, .int .i64 i)]) _ ?_ ⟨rfl, by simp, rfl⟩ ?_
  · simp [mkEnv, List.replicate]
  rintro i _ _ hi ⟨rfl, hI, rfl⟩
  simp [mkEnv, List.replicate]
  by_cases hlt : i < l.length
  · obtain ⟨y, hy⟩ := nth_lt hlt
    have hy' := nth_get hy
    rw [drop_get hy', singleS] at hI
    have es : IntKind.i64.wrap ((i : Int) + 1) = (i : Int) + 1 := by rw [wrap_small] <;> omega
    have hsl : gpure (.slice 1 false true false) [fints l, .int .i64 i] = some (fints (l.take i)) := by
      simp only [gpure, gslice, if_true, gbm, Option.bind_some, gbh, gbl, gbound, List.length_map]
      rw [if_pos (by omega)]
      simp [List.map_take]
    by_cases h1 : 1 ≤ y
    rotate_left
    · have h1' : y < 1 := by omega
      simp [hlt, hy, h1']
      rw [hI] at h; simpa [isVar, h1] using h
    have h1' : ¬ y < 1 := by omega
    by_cases h2 : y ≤ 65536
    rotate_left
    · have h2' : 65536 < y := by omega
      simp [hlt, hy, h1', h2']
      rw [hI] at h; simpa [isVar, h1, h2] using h
    have h2' : ¬ 65536 < y := by omega
    simp [hlt, hy, h1', h2', hsl]
    refine r_Has_ok (by simp; omega) ?_
    by_cases c : (l.take i).contains y = true
    · rw [c]
      simp
      rw [hI, c] at h; simpa using h
    · have c' : (l.take i).contains y = false := by simpa using c
      rw [c']
      simp [es]
      exact forK_go _ hlt (by simp [mkEnv, List.replicate]) ⟨rfl, by rw [hI, c', take_get hy']; simp [isVar, h1, h2], rfl⟩
  · have : i = l.length := by omega
    subst this
    simp
    rw [hI] at h; simpa [singleS] using h
theorem r_Flat_ok {p : List Blk} {σ : GS} {Post : DV → GS → Prop} (hp : lensB p < 2 ^ 40) (h : Post (fints (flatB p)) σ) : GCall Try.prog F_skolemref03_Flat [fblks p] σ Post := by
  have hlb := lensB_flat p
  refine GCall.pure (r := fints (flatB p)) ?_ (by simp) h
  refine gc_skolemref03_Flat ?_
  simp [G_skolemref03_Flat, genv0, List.replicate]
  refine gfor p.length (fun i e σ' => Fr σ.length σ σ' ∧ ∃ s, Own σ.length 1 eint σ' s (flatB (p.take i)) ∧ e = mkEnv 19 [(0, fblks p), (3, s), (4, .int .i64 i)]) _ ?_ ⟨.rfl', .nils, by simpa using Own.nil, rfl⟩ ?_
  · simp [mkEnv, List.replicate]
  rintro i _ σ' hi ⟨hF, s, hO, rfl⟩
  simp [mkEnv, List.replicate]
  by_cases hlt : i < p.length
  · obtain ⟨b, hb⟩ := nth_lt hlt
    have hb' := nth_get hb
    have es : IntKind.i64.wrap ((i : Int) + 1) = (i : Int) + 1 := by rw [wrap_small] <;> omega
    have htk : flatB (p.take (i + 1)) = flatB (p.take i) ++ b.2 := by rw [take_get hb', flatB_append]; simp
    have hle : (flatB (p.take i)).length + b.2.length ≤ (flatB p).length := by
      have : flatB p = flatB (p.take (i + 1)) ++ flatB (p.drop (i + 1)) := by rw [← flatB_append, List.take_append_drop]
      rw [this, htk]; simp
    have hge := hF.len
    obtain ⟨s', σ2, q1, q2, q3, q4, q5, q6, q7⟩ := hO.append (by_ := 8) (x := fints b.2) (ys := b.2) (fun _ => rfl) (by simpa [flatMap_flatten] using gread_fsl (σ := σ') (sz := 1) (es := b.2.map eint)) (by simp [glen]) (by simp) hge (by omega) (by decide)
    simp [hlt, hb, q1, es]
    exact forK_go _ hlt (by simp [mkEnv, List.replicate]) ⟨hF.trans q3, s', by rw [htk]; exact q2, rfl⟩
  · have : i = p.length := by omega
    subst this
    rw [List.take_length] at hO
    simp
    exact ⟨hF, hO.rd (fun _ => rfl) fun i hi => .inl hi⟩
theorem altB_step {prev : Option Bool} {b : Blk} {p : List Blk} : altB prev (b :: p) = (!b.2.isEmpty && decide (prev ≠ some b.1) && altB (some b.1) p) := rfl
/-- The quantifier of the block before. -/
def prevB (p : List Blk) : Nat → Option Bool
  | 0 => none
  | i + 1 => (p[i]?).map (·.1)
theorem r_May_ok {p : List Blk} {σ : GS} {Post : DV → GS → Prop} (hp : lensB p < 2 ^ 40) (h : Post (.bool (mayB p)) σ) : GCall Try.prog F_skolemref03_May [fblks p] σ Post := by
  have hlb := lensB_flat p
  refine GCall.say (r := .bool (mayB p)) ?_ rfl h
  refine gc_skolemref03_May ?_
  simp [G_skolemref03_May, genv0, List.replicate]
  refine gfor p.length (fun i e σ' => σ' = σ ∧ altB none p = altB (prevB p i) (p.drop i) ∧ e = mkEnv 45 [(0, fblks p), (3, .int .i64 i)]) _ ?_ ⟨rfl, by simp [prevB], rfl⟩ ?_
  · simp [mkEnv, List.replicate]
  rintro i _ _ hi ⟨rfl, hI, rfl⟩
  simp [mkEnv, List.replicate]
  by_cases hlt : i < p.length
  · obtain ⟨b, hb⟩ := nth_lt hlt
    have hb' := nth_get hb
    rw [drop_get hb', altB_step] at hI
    have es : IntKind.i64.wrap ((i : Int) + 1) = (i : Int) + 1 := by rw [wrap_small] <;> omega
    by_cases h0 : b.2.length = 0
    · have h0' : b.2 = [] := List.length_eq_zero_iff.1 h0
      simp [hlt, hb, h0']
      simp [mayB, hI, h0']
      exact .rfl'
    have h0' : ¬ (b.2 = []) := fun e => h0 (by rw [e]; rfl)
    have h0'' : ¬ ((b.2.length : Int) = 0) := by omega
    cases i with
    | zero =>
      simp [hlt, hb, h0', h0'']
      exact forK_go _ hlt (by simp [mkEnv, List.replicate]) ⟨rfl, by simp [hI, prevB, hb', h0'], rfl⟩
    | succ i =>
      obtain ⟨c, hc⟩ := nth_lt (l := p) (i := i) (by omega)
      have hc' := nth_get hc
      have ew' : IntKind.i64.wrap (i : Int) = i := by rw [wrap_small] <;> omega
      have hge : (0 : Int) ≤ (i : Int) + 1 := by omega
      have hgt : (0 : Int) < (i : Int) + 1 := by omega
      have htn : ((i : Int) + 1).toNat = i + 1 := by omega
      have es2 : IntKind.i64.wrap ((i : Int) + 1 + 1) = (i : Int) + 1 + 1 := by rw [wrap_small] <;> omega
      by_cases he : c.1 = b.1
      · simp [hlt, hb, h0', h0'', hge, hgt, htn, ew', hc, he]
        simp [mayB, hI, prevB, hc', he]
        exact .rfl'
      · have he2 : (c.1 == b.1) = false := by simpa using he
        simp [hlt, hb, h0', h0'', hge, hgt, htn, ew', hc, he2, es2]
        exact forK_go _ hlt (by simp [mkEnv, List.replicate]) ⟨rfl, by simp [hI, prevB, hc', he, h0', hb'], rfl⟩
  · have : i = p.length := by omega
    subst this
    rw [List.drop_length] at hI
    have hI' : altB none p = true := hI
    simp
    refine r_Flat_ok hp ?_
    by_cases c : (flatB p).length ≤ 1024
    · have c' : ((flatB p).length : Int) ≤ 1024 := by omega
      simp [c']
      refine r_single_ok (by omega) ?_
      simp [mayB, hI', c]
      exact .rfl'
    · have c' : ¬ ((flatB p).length : Int) ≤ 1024 := by omega
      simp [c']
      simp [mayB, c]
      exact .rfl'
end Go.Gh
namespace Go.Gh
open Go.RowKit Go.Proofs
set_option linter.unusedVariables false
set_option linter.unusedSimpArgs false
set_option maxRecDepth 100000
theorem p_each_ok {p : List Blk} {σ : GS} {Post : DV → GS → Prop} (k : Post (.func F_prefix_each_1 [] [.fptr [fblks p]]) σ) : GCall Try.prog F_prefix_each [fblks p] σ Post := by
  refine GCall.pure (r := .func F_prefix_each_1 [] [.fptr [fblks p]]) ?_ (by have := closed_fblks p; simp [DV.closed, closeds] at this ⊢; exact this) k
  refine gc_prefix_each ?_
  simp [G_prefix_each, genv0, List.replicate]
  exact .func .nil (.cons (.ptr (id := σ.length) (off := 0) (ro := false) (cs := [fblks p]) (.inl (Nat.le_refl _)) (by simp) (.cons (.same _) .nil)) .nil)
theorem p_each1_ok {p : List Blk} {L : Nat} {σ : GS} {Post : DV → GS → Prop} (hp : lensB p < 2 ^ 40) (I : Nat → GS → Prop) (J : GS → Prop) (hI : ∀ n σ' o, I n σ' → I n (σ' ++ [o])) (h0 : I 0 σ)
    (hr : ∀ n i v σ', (prs 0 p)[n]? = some (i, v) → I n σ' → GRound Try.prog L [.int .i64 (i : Nat), .int .i64 v] σ' fun r σ'' => (r = .bool true ∧ I (n + 1) σ'') ∨ (r = .bool false ∧ J σ''))
    (k : ∀ σ', I (flatB p).length σ' → Post (.tuple []) σ') (kj : ∀ σ', J σ' → Post (.tuple []) σ') : GCall Try.prog F_prefix_each_1 [.yield L, .fptr [fblks p]] σ Post := by
  have hlb := lensB_flat p
  refine gc_prefix_each_1 ?_
  simp [G_prefix_each_1, genv0, List.replicate]
  refine gfor p.length (fun i e σ' => I (flatB (p.take i)).length σ' ∧ e = mkEnv 28 [(0, .yield L), (7, fblks p), (8, .int .i64 p.length), (9, .int .i64 i)]) _ ?_ ⟨by simpa using h0, rfl⟩ ?_
  · simp [mkEnv, List.replicate]
  rintro i _ σ1 hi ⟨hI1, rfl⟩
  simp [mkEnv, List.replicate]
  by_cases hlt : i < p.length
  rotate_left
  · have : i = p.length := by omega
    subst this
    rw [List.take_length] at hI1
    simp
    exact k _ hI1
  obtain ⟨b, hb⟩ := nth_lt hlt
  have hb' := nth_get hb
  have hbm := lensB_mem (List.mem_of_getElem? hb')
  have es : IntKind.i64.wrap ((i : Int) + 1) = (i : Int) + 1 := by rw [wrap_small] <;> omega
  simp [hlt, hb]
  refine gfor b.2.length (fun j e σ' => I ((flatB (p.take i)).length + j) σ' ∧ e = mkEnv 28 [(0, .yield L), (3, .int .i64 i), (7, fblks p), (8, .int .i64 p.length), (9, .int .i64 i), (15, fints b.2), (16, .int .i64 b.2.length), (17, .int .i64 j)]) _ ?_ ⟨hI _ _ _ hI1, rfl⟩ ?_
  · simp [mkEnv, List.replicate]
  rintro j _ σ2 hj ⟨hI2, rfl⟩
  simp [mkEnv, List.replicate]
  by_cases hjl : j < b.2.length
  · obtain ⟨v, hv⟩ := nth_lt hjl
    have hv' := nth_get hv
    have es2 : IntKind.i64.wrap ((j : Int) + 1) = (j : Int) + 1 := by rw [wrap_small] <;> omega
    simp [hjl, hv]
    refine (hr _ i v σ2 (prs_at hb' hv') hI2).mono ?_
    rintro r σ3 (⟨rfl, h3⟩ | ⟨rfl, h3⟩)
    · simp [es2]
      exact forK_go _ hjl (by simp [mkEnv, List.replicate]) ⟨by rw [← Nat.add_assoc]; exact h3, rfl⟩
    · simp
      exact kj _ h3
  · have : j = b.2.length := by omega
    subst this
    simp [es]
    refine forK_go _ hlt (by simp [mkEnv, List.replicate]) ⟨?_, rfl⟩
    rw [flatB_take hb', List.length_append]; exact hI2
end Go.Gh
namespace Go.Gh
open Go.RowKit Go.Proofs
set_option linter.unusedVariables false
set_option linter.unusedSimpArgs false
set_option maxRecDepth 100000
end Go.Gh
namespace Go.Gh
open Go.RowKit Go.Proofs
set_option linter.unusedVariables false
set_option linter.unusedSimpArgs false
set_option maxRecDepth 100000
theorem p_Index_ok {a : List Int} {x : Int} {σ : GS} {Post : DV → GS → Prop} (hl : a.length < 2 ^ 60) (h : Post (.int .i64 (idxF (fun y => decide (y = x)) 0 a)) σ) : GCall Try.prog F_slices_Index_int_int [fints a, .int .i64 x] σ Post := by
  refine gc_slices_Index_int_int ?_
  simp [G_slices_Index_int_int, genv0, List.replicate]
  refine gfor a.length (fun i e σ' => σ' = σ ∧ idxF (fun y => decide (y = x)) 0 a = idxF (fun y => decide (y = x)) i (a.drop i) ∧ e = mkEnv 19 [(0, fints a), (1, .int .i64 x), (7, .int .i64 a.length), (8, .int .i64 i)]) _ ?_ ⟨rfl, by simp, rfl⟩ ?_
  · simp [mkEnv, List.replicate]
  rintro i _ _ hi ⟨rfl, hI, rfl⟩
  simp [mkEnv, List.replicate]
  by_cases hlt : i < a.length
  · obtain ⟨y, hy⟩ := nth_lt hlt
    rw [drop_get hy] at hI
    have es : IntKind.i64.wrap ((i : Int) + 1) = (i : Int) + 1 := by rw [wrap_small] <;> omega
    by_cases c : x = y
    · simp [hlt, hy, c]
      rw [hI] at h; simpa [idxF, c] using h
    · have c' : ¬ y = x := fun e => c e.symm
      simp [hlt, hy, c, es]
      exact forK_go _ hlt (by simp [mkEnv, List.replicate]) ⟨rfl, by rw [hI]; simp [idxF, c'], rfl⟩
  · have : i = a.length := by omega
    subst this
    simp
    rw [hI] at h; simpa [idxF] using h
theorem p_Contains_ok {a : List Int} {x : Int} {σ : GS} {Post : DV → GS → Prop} (hl : a.length < 2 ^ 60) (h : Post (.bool (a.contains x)) σ) : GCall Try.prog F_slices_Contains_int_int [fints a, .int .i64 x] σ Post := by
  refine gc_slices_Contains_int_int ?_
  simp [G_slices_Contains_int_int, genv0, List.replicate]
  refine p_Index_ok hl ?_
  have e : decide (0 ≤ idxF (fun y => decide (y = x)) 0 a) = a.contains x := by
    rw [idxF_any]
    clear h hl
    induction a with
    | nil => rfl
    | cons y a ih =>
      rw [List.any_cons, ih, List.contains_cons]
      congr 1
      by_cases e : y = x
      · simp [e]
      · have : (x == y) = false := by simpa using fun h => e h.symm
        simp [e, this]
  simp
  rw [e]; exact h
theorem p_Find_ok {p : List Blk} {v : Int} {σ : GS} {Post : DV → GS → Prop} (hp : lensB p < 2 ^ 40) (h : Post (findT (findO 0 p v)) σ) : GCall Try.prog F_prefix_Find [fblks p, .int .i64 v] σ Post := by
  have hlb := lensB_flat p
  have hcl : ∀ o, (findT o).closed = true := fun o => by cases o <;> simp [findT]
  refine GCall.say (r := findT (findO 0 p v)) ?_ (hcl _) h
  refine gc_prefix_Find ?_
  simp [G_prefix_Find, genv0, List.replicate]
  refine gfor p.length (fun i e σ' => Fr σ.length σ σ' ∧ findO 0 p v = findO i (p.drop i) v ∧ e = mkEnv 24 [(1, .int .i64 v), (9, fblks p), (10, .int .i64 p.length), (11, .int .i64 i)]) _ ?_ ⟨.rfl', by simp, rfl⟩ ?_
  · simp [mkEnv, List.replicate]
  rintro i _ σ1 hi ⟨hF, hI, rfl⟩
  simp [mkEnv, List.replicate]
  by_cases hlt : i < p.length
  · obtain ⟨b, hb⟩ := nth_lt hlt
    have hb' := nth_get hb
    have hbm := lensB_mem (List.mem_of_getElem? hb')
    rw [drop_get hb', findO] at hI
    have es : IntKind.i64.wrap ((i : Int) + 1) = (i : Int) + 1 := by rw [wrap_small] <;> omega
    simp [hlt, hb]
    refine p_Contains_ok (by omega) ?_
    by_cases c : b.2.contains v = true
    · rw [if_pos c] at hI
      rw [c, hI]
      simp [findT]
      exact hF.app _
    · have c' : b.2.contains v = false := by simpa using c
      rw [c'] at hI ⊢
      simp [es]
      exact forK_go _ hlt (by simp [mkEnv, List.replicate]) ⟨hF.app _, hI, rfl⟩
  · have : i = p.length := by omega
    subst this
    rw [List.drop_length, findO] at hI
    rw [hI]
    simp [findT]
    exact hF
theorem p_abs_ok {x : Int} {σ : GS} {Post : DV → GS → Prop} (h : Post (.int .i64 (absW x)) σ) : GCall Try.prog F_prefix_abs [.int .i64 x] σ Post := by
  refine gc_prefix_abs ?_
  simp [G_prefix_abs, genv0, List.replicate]
  exact h
theorem r_Abs_ok {x : Int} {σ : GS} {Post : DV → GS → Prop} (h : Post (.int .i64 (if x < 0 then IntKind.i64.wrap (-x) else x)) σ) : GCall Try.prog F_skolemref03_Abs [.int .i64 x] σ Post := by
  refine gc_skolemref03_Abs ?_
  by_cases c : x < 0
  · simp [G_skolemref03_Abs, genv0, List.replicate, c]
    simpa [c] using h
  · simp [G_skolemref03_Abs, genv0, List.replicate, c]
    simpa [c] using h
end Go.Gh
namespace Go.Gh
open Go.RowKit Go.Proofs
set_option linter.unusedVariables false
set_option linter.unusedSimpArgs false
set_option maxRecDepth 100000
def CapOk (s : DV) : Prop := ∀ a b n z c, s = .slice a b n z (some c) → n ≤ c
theorem append_cap {sz by_ : Nat} {s x v : DV} {σ σ' : GS} (h : gappend sz by_ s x σ = some (v, σ')) (hs : CapOk s) : CapOk v := by
  unfold gappend at h
  repeat' (split at h)
  all_goals first | (cases h; done) | skip
  all_goals
    cases h
    first
    | exact hs
    | (intro a b n z c e; cases e; done)
    | (intro a b n z c e; cases e; assumption)
theorem clone_ok {s : DV} {xs : List Int} {n : Nat} {σ : GS} {Post : DV → GS → Prop} (hq : nilq s ≠ []) (hn : true ∈ nilq s → xs = []) (hr : ∀ τ, gread 1 s (σ ++ τ) = some (xs.flatMap eint)) (hg : glen s = xs.length) (hl : xs.length < 2 ^ 43) (hnn : n ≤ σ.length)
    (k : ∀ s' σ', Own n 1 eint σ' s' xs → Fr σ.length σ σ' → (∀ i, s'.has i → σ.length ≤ i) → CapOk s' → Post s' σ') : GCall Try.prog F_slices_Clone_int_int [s] σ Post := by
  refine gc_slices_Clone_int_int ?_
  simp [G_slices_Clone_int_int, genv0, List.replicate]
  refine eqn_any hq fun b hb => ?_
  cases b with
  | true =>
    have := hn hb
    subst this
    simp
    exact k .nils σ .nil (.refl (Nat.le_refl _)) (fun i ⟨_, _, _, _, e⟩ => by cases e) (fun _ _ _ _ _ e => by cases e)
  | false =>
    have h0 : Own σ.length 1 eint (σ ++ [.row false (gzeros [.int .i64 0] 0)]) (.slice σ.length 0 0 1 (some 0)) ([] : List Int) := .inr ⟨σ.length, some 0, [], Nat.le_refl _, by simp, by simp [gzeros], fun c hc => by cases hc; simp⟩
    obtain ⟨s', σ', q1, q2, q3, q4, q5, q6, _⟩ := h0.append (by_ := 8) (ys := xs) (x := s) (fun _ => rfl) (hr _) hg (fun y _ => by simp) (by simp) (by simp; omega) (by decide)
    simp [q1]
    refine k s' σ' (by simpa using q2.weaken hnn) (((Fr.refl (Nat.le_refl _)).app _).trans q3) (fun i hi => ?_) (append_cap (sz := 1) (by_ := 8) (s := .slice σ.length 0 0 1 (some 0)) q1 (fun _ _ _ _ _ e => by cases e; exact Nat.le_refl _))
    exact q2.has_ge hi
theorem clone_frz {xs : List Int} {n : Nat} {σ : GS} {Post : DV → GS → Prop} (hl : xs.length < 2 ^ 43) (hnn : n ≤ σ.length)
    (k : ∀ s' σ', Own n 1 eint σ' s' xs → Fr σ.length σ σ' → (∀ i, s'.has i → σ.length ≤ i) → CapOk s' → Post s' σ') : GCall Try.prog F_slices_Clone_int_int [fints xs] σ Post := by
  refine clone_ok ?_ ?_ (fun τ => ?_) (by simp [glen]) hl hnn k
  · simp only [nilq]; split <;> simp
  · simp only [nilq, List.length_map]; intro h; split at h
    · simp at h
    · exact List.length_eq_zero_iff.1 (by omega)
  · simp [gread, flatMap_flatten]
theorem idx_live {f : FuncId} {pre caps : List DV} {n : Nat} {s : DV} {xs : List Int} {p : Int → Bool} {σ : GS} {Post : DV → GS → Prop} (ho : Own n 1 eint σ s xs) (hl : xs.length < 2 ^ 60)
    (hf : ∀ x ∈ xs, ∀ K : DV → GS → Prop, K (.bool (p x)) σ → GCall Try.prog f (pre ++ .int .i64 x :: caps) σ K) (h : Post (.int .i64 (idxF p 0 xs)) σ) :
    GCall Try.prog F_slices_IndexFunc_int_int [s, .func f pre caps] σ Post := by
  refine gc_slices_IndexFunc_int_int ?_
  simp [G_slices_IndexFunc_int_int, genv0, List.replicate, ho.len]
  refine gfor xs.length (fun i e σ' => σ' = σ ∧ idxF p 0 xs = idxF p i (xs.drop i) ∧ e = mkEnv 19 [(0, s), (1, .func f pre caps), (7, .int .i64 xs.length), (8, .int .i64 i)]) _ ?_ ⟨rfl, by simp, rfl⟩ ?_
  · simp [mkEnv, List.replicate]
  rintro i _ _ hi ⟨rfl, hI, rfl⟩
  simp [mkEnv, List.replicate]
  by_cases hlt : i < xs.length
  · obtain ⟨y, hy⟩ := get_lt hlt
    rw [drop_get hy] at hI
    obtain ⟨id, g1, g2, g3, g4⟩ := ho.get (fun _ => rfl) hy (k := .i64)
    have g5 := g4 0 (by omega)
    simp at g2 g5
    simp [hlt, g2, g5]
    refine hf y (List.mem_of_getElem? hy) _ ?_
    by_cases h1 : p y = true
    · simp [h1]
      simpa [hI, idxF, h1] using h
    · simp [h1, wrap_suc (show i < _ by omega)]
      exact forK_go _ hlt (by simp [mkEnv, List.replicate]) ⟨rfl, by simp [hI, idxF, h1], rfl⟩
  · have : i = xs.length := by omega
    subst this
    simp
    simpa [hI, idxF] using h
theorem idxF_split {p : Int → Bool} {xs : List Int} {i : Nat} {x : Int} (h1 : xs[i]? = some x) (h3 : p x = true) (h4 : ∀ j y, j < i → xs[j]? = some y → p y = false) : (xs.take (i + 1)).filter (fun v => !p v) = xs.take i ∧ (xs.take i).length = i := by
  have hi := get_dom h1
  refine ⟨?_, by simp; omega⟩
  rw [take_get h1, List.filter_append]
  simp [h3]
  intro a ha
  obtain ⟨j, hj⟩ := List.mem_iff_getElem?.1 ha
  rw [List.getElem?_take] at hj
  split at hj
  · exact h4 j a (by assumption) hj
  · cases hj
theorem del_ok {f : FuncId} {pre caps : List DV} {n : Nat} {s : DV} {xs : List Int} {p : Int → Bool} {σ : GS} {Post : DV → GS → Prop} (ho : Own n 1 eint σ s xs) (hcap : CapOk s) (hl : xs.length < 2 ^ 40)
    (hf : ∀ x ∈ xs, ∀ σ', (∀ j, ¬ s.has j → σ'[j]? = σ[j]?) → ∀ K : DV → GS → Prop, K (.bool (p x)) σ' → GCall Try.prog f (pre ++ .int .i64 x :: caps) σ' K)
    (k : ∀ σ', (∀ j, ¬ s.has j → σ'[j]? = σ[j]?) → σ'.length = σ.length → Post (fints (xs.filter fun v => !p v)) σ') : GCall Try.prog F_slices_DeleteFunc_int_int [s, .func f pre caps] σ Post := by
  have fin : ∀ (σ' : GS) (s' : DV) (ys : List Int), Own n 1 eint σ' s' ys → (∀ j, s'.has j → s.has j) → (∀ j, ¬ s.has j → σ'[j]? = σ[j]?) → σ'.length = σ.length → ys = xs.filter (fun v => !p v) → ∃ S v', Rd (Go.Gh.frz S σ') (RO (Go.Gh.frz S σ')) s' v' ∧ Post v' (Go.Gh.frz S σ') := by
    rintro σ' s' ys h1 h2 h3 h4 rfl
    refine ⟨fun i => s'.idOf == some i, _, h1.rdF fun _ => rfl, k _ (fun j hj => ?_) (by rw [frz_len, h4])⟩
    rw [frz_off (h1.idOf_has fun hh => hj (h2 j hh))]; exact h3 j hj
  refine GCall.out ?_
  refine gc_slices_DeleteFunc_int_int ?_
  simp [G_slices_DeleteFunc_int_int, genv0, List.replicate]
  refine idx_live ho (by omega) (fun x hx K hK => hf x hx σ (fun _ _ => rfl) K hK) ?_
  rcases idxF_cases p xs 0 with ⟨h1, h2⟩ | ⟨i0, x0, h1, h2, h3, h4⟩
  · simp [h1]
    exact fin σ s xs ho (fun _ h => h) (fun _ _ => rfl) rfl (List.filter_eq_self.2 fun a ha => by simp [h2 a ha]).symm
  rw [Nat.zero_add] at h1
  have hi0 := get_dom h2
  have hne : ¬ ((i0 : Int) = -1) := by omega
  have ew : IntKind.i64.wrap ((i0 : Int) + 1) = (i0 : Int) + 1 := by rw [wrap_small] <;> omega
  obtain ⟨f1, f2⟩ := idxF_split h2 h3 h4
  rw [h1]
  simp [hne, ew]
  rcases ho with ⟨_, rfl⟩ | ⟨id, cap, rest, hge, rfl, hrow, hcp⟩
  · simp at hi0
  have hhas : ∀ t, t = id → (DV.slice id 0 xs.length 1 cap).has t := fun t e => by subst e; exact ⟨_, _, _, _, rfl⟩
  obtain ⟨N, hN⟩ : ∃ N, xs.length = N := ⟨_, rfl⟩
  have hrow' : σ[id]? = some (.row false (xs.map (.int .i64) ++ rest)) := by rw [hrow, flatMap_one]
  rw [hN]
  refine gwhile (mkEnv 42 [(0, .slice id 0 N 1 cap), (1, .func f pre caps), (5, .int .i64 i0), (6, .int .i64 ((i0 + 1 : Nat) : Int))]) (N - (i0 + 1)) (fun m e σ' => ∃ (j i : Nat) (ys : List Int), m = N - j ∧ j ≤ N ∧ i < j ∧ e = mkEnv 42 [(0, .slice id 0 N 1 cap), (1, .func f pre caps), (5, .int .i64 i), (6, .int .i64 j)] ∧ σ'[id]? = some (.row false (ys.map (.int .i64) ++ rest)) ∧ ys.length = N ∧ ys.take i = (xs.take j).filter (fun v => !p v) ∧ ys.drop j = xs.drop j ∧ (∀ t, t ≠ id → σ'[t]? = σ[t]?) ∧ σ'.length = σ.length) ?_ ⟨i0 + 1, i0, xs, rfl, by omega, by omega, rfl, hrow', hN, f1.symm, rfl, fun _ _ => rfl, rfl⟩ ?_
  · simp [mkEnv, List.replicate]
  rintro m _ σ' ⟨j, i, ys, rfl, hj, hij, rfl, hr, hyl, hyi, hyj, hoth, hlen⟩
  simp [mkEnv, List.replicate]
  by_cases hlt : j < N
  · obtain ⟨y, hy⟩ := get_lt (xs := xs) (i := j) (by omega)
    have hyy : ys[j]? = some y := by
      have := congrArg (fun l => l[0]?) hyj
      simpa [hy] using this
    have hia := iaddr_own (id := id) (n := N) (sz := 1) (i := j) (k := .i64) (cap := cap) hlt
    have hib := iaddr_own (id := id) (n := N) (sz := 1) (i := i) (k := .i64) (cap := cap) (by omega)
    simp only [Nat.mul_one] at hia hib
    have hld : gload (.load 1 false) [.ptr id j] σ' = some (.int .i64 y) := by
      rw [ld_at hr, List.getElem?_append_left (by simp; omega)]; simp [hyy]
    have es : IntKind.i64.wrap ((j : Int) + 1) = ((j + 1 : Nat) : Int) := wrap_suc (by omega)
    have es2 : IntKind.i64.wrap ((i : Int) + 1) = ((i + 1 : Nat) : Int) := wrap_suc (by omega)
    simp [hlt, hia, hld]
    refine hf y (List.mem_of_getElem? hy) σ' (fun t ht => hoth t fun e => ht (hhas t e)) _ ?_
    by_cases hp : p y = true
    · simp [hp, es]
      refine whK_go (N - (j + 1)) _ (by omega) ?_ ⟨j + 1, i, ys, rfl, by omega, by omega, rfl, hr, hyl, ?_, ?_, hoth, hlen⟩
      · simp [mkEnv, List.replicate]
      · rw [take_get hy, List.filter_append, hyi]; simp [hp]
      · have := congrArg (List.drop 1) hyj; simpa [List.drop_drop, Nat.add_comm] using this
    · have hsto : gimp (.store 1) [.ptr id i, .int .i64 y] σ' = some (.tuple [], σ'.set id (.row false ((ys.set i y).map (.int .i64) ++ rest))) := by
        simp only [gimp, hr, DV.cells]
        rw [if_pos ⟨rfl, by simp; omega, rfl⟩, over_one (by simp; omega), List.set_append_left _ _ (by simp; omega), List.map_set]
      simp [hp, hib, hsto, es, es2]
      refine whK_go (N - (j + 1)) _ (by omega) ?_ ⟨j + 1, i + 1, ys.set i y, rfl, by omega, by omega, rfl, ?_, by simp [hyl], ?_, ?_, fun t ht => ?_, by simpa using hlen⟩
      · simp [mkEnv, List.replicate]
      · rw [List.getElem?_set_self (get_dom hr)]; simp
      · rw [take_get hy, List.filter_append, ← hyi]
        rw [List.take_succ_eq_append_getElem (by simp; omega), List.take_set, List.set_eq_of_length_le (by simp; omega)]
        simp [hp]
      · rw [List.drop_set_of_lt (by omega)]
        have := congrArg (List.drop 1) hyj; simpa [List.drop_drop, Nat.add_comm] using this
      · rw [List.getElem?_set_ne (Ne.symm ht)]; exact hoth t ht
  · have : j = N := by omega
    subst this
    rw [← hN, List.take_length] at hyi
    have hcl : ∀ c, cap = some c → j ≤ c := fun c hc => by rw [← hN]; exact hcap id 0 xs.length 1 c (by rw [hc])
    have hcg : j ≤ cap.getD j := by cases hc : cap with
      | none => simp
      | some c => simp; exact hcl c hc
    have hsl1 : gpure (.slice 1 true false false) [.slice id 0 j 1 cap, .int .i64 i] = some (.slice id i (j - i) 1 (cap.map fun c => c - i)) := by
      simp only [gpure, gslice, if_true, gbm, Option.bind_some, gbh, gbl, gbound]
      rw [if_pos ⟨rfl, hcg⟩]
      simp only [Option.bind_some]
      rw [if_pos (by omega)]
      cases cap <;> simp
    have hsl2 : gpure (.slice 1 false true false) [.slice id 0 j 1 cap, .int .i64 i] = some (.slice id 0 i 1 cap) := by
      simp only [gpure, gslice, if_true, gbm, Option.bind_some, gbh, gbl, gbound]
      rw [if_pos (by omega)]
      simp only [Option.bind_some]
      cases cap <;> simp
    have hclr : gimp (.clear 1 [.int .i64 0]) [.slice id i (j - i) 1 (cap.map fun c => c - i)] σ' = some (.tuple [], σ'.set id (.row false ((ys.take i).map (.int .i64) ++ (List.replicate (j - i) (.int .i64 0) ++ rest)))) := by
      simp only [gimp, hr]
      rw [if_neg (by omega), if_pos trivial, if_pos ⟨by simp; omega, by simp [gzeros]⟩]
      congr 3
      unfold over
      simp only [gzeros, List.length_replicate, Nat.mul_one]
      rw [List.take_append_of_le_length (by simp; omega), ← List.map_take, List.drop_append, List.drop_eq_nil_of_le (by simp; omega)]
      simp
      rw [show i + (j - i) - ys.length = 0 by omega]; simp
    simp [hsl1, hclr, hsl2]
    refine fin _ _ ((ys.take i)) (.inr ⟨id, cap, List.replicate (j - i) (.int .i64 0) ++ rest, hge, by simp; omega, ?_, fun c hc => ?_⟩) (fun t ⟨_, _, _, _, e⟩ => ⟨_, _, _, _, by cases e; rfl⟩) (fun t ht => ?_) (by simpa using hlen) hyi
    · rw [List.getElem?_set_self (get_dom hr), flatMap_one, List.map_take]
    · have := hcp c hc
      simp at this ⊢; omega
    · rw [List.getElem?_set_ne fun e => ht (hhas t e.symm)]
      exact hoth t fun e => ht (hhas t e)
end Go.Gh
namespace Go.Gh
open Go.RowKit Go.Proofs
set_option linter.unusedVariables false
set_option linter.unusedSimpArgs false
set_option maxRecDepth 100000
/-- Where a block stands, by its index. -/
def plD (p : List Blk) (k : Nat) : DV := placeV (k, ((p[k]?).map (·.1)).getD false)
theorem place_round {p : List Blk} {σ : GS} {env : Env} {M : GObj} {τ : GS} {i : Nat} {v : Int} {b : Blk} {E : List (Int × DV)} {Post : DV → GS → Prop} (hp : lensB p < 2 ^ 40) (hb : p[i]? = some b)
    (hlen : env.length = 31) (h1 : env[1]? = some (.ptr σ.length 0)) (h3 : env[3]? = some (.ptr (σ.length + 2) 0))
    (hM : ∀ τ, MpO kint (σ ++ (.row false [fblks p] :: M :: τ)) (σ.length + 1) E) (hE : ∀ k u, kget k E = some u → ∃ x, u = placeV x)
    (k1 : ∀ M' τ', (∀ τ, MpO kint (σ ++ (.row false [fblks p] :: M' :: τ)) (σ.length + 1) (plStep (plD p) E (i, v))) → Post (.bool true) (σ ++ (.row false [fblks p] :: M' :: .row false [.map (σ.length + 1)] :: .loop (lgR env [11, 12] (rngA Try.f42 0) (rngB Try.f42 0)) :: τ'))) :
    GRound Try.prog (σ.length + 3) [.int .i64 i, .int .i64 v] (σ ++ (.row false [fblks p] :: M :: .row false [.map (σ.length + 1)] :: .loop (lgR env [11, 12] (rngA Try.f42 0) (rngB Try.f42 0)) :: τ)) Post := by
  refine round_of (env := env) (ps := [11, 12]) (a := rngA Try.f42 0) (b := rngB Try.f42 0) seatfollows (by simp) ca_prefix_places_0 cb_prefix_places_0 rfl ?_
  have h1' : ∀ h, env[1]'h = .ptr σ.length 0 := fun h => by rw [List.getElem?_eq_getElem h] at h1; exact Option.some.inj h1
  have h3' : ∀ h, env[3]'h = .ptr (σ.length + 2) 0 := fun h => by rw [List.getElem?_eq_getElem h] at h3; exact Option.some.inj h3
  have hb2 : nth p i = some b := hb
  have hlk : ∀ τ, gload (.lookup (.int .i64) (.agg [.int .i64 0, .bool false]) true) [.map (σ.length + 1), .int .i64 v] (σ ++ (.row false [fblks p] :: M :: τ)) = some (match kget v E with | some u => .tuple [u, .bool true] | none => .tuple [.agg [.int .i64 0, .bool false], .bool false]) := fun τ => by
    rw [(hM τ).lookup (kt := .int .i64) v _ true]
    cases hk : kget v E <;> rfl
  simp [GA_prefix_places_0, GB_prefix_places_0, putAll, List.getElem?_set, hlen, h1', h3', lgR, hlk]
  cases hk : kget v E with
  | some u =>
    obtain ⟨x, rfl⟩ := hE _ _ hk
    simp [placeV, List.getElem?_set, hlen, h1', h3']
    refine roundK_normal (e0 := env) (ps := [11, 12]) (a := rngA Try.f42 0) (b := rngB Try.f42 0) (by simp) ?_
    rw [set_tail]
    refine k1 _ _ fun τ1 => ?_
    unfold plStep; rw [if_pos (by simp [hk])]
    exact hM τ1
  | none =>
    simp [List.getElem?_set, hlen, h1', h3', hb2, fill_flat2]
    obtain ⟨o, q1, q2⟩ := (hM (.row false [.map (σ.length + 1)] :: .loop ⟨env, [11, 12], rngA Try.f42 0, rngB Try.f42 0, .busy, none⟩ :: (τ ++ [.row false [.int .i64 0, .bool false]]))).set (kt := .int .i64) v (plD p i)
    rw [set_tail] at q1 q2
    have hd : plD p i = .agg [.int .i64 i, .bool b.1] := by simp [plD, placeV, hb]
    rw [hd] at q1
    simp at q1
    simp [q1]
    refine roundK_normal (e0 := env) (ps := [11, 12]) (a := rngA Try.f42 0) (b := rngB Try.f42 0) (by simp) ?_
    rw [set_tail]
    refine k1 _ _ fun τ1 => ?_
    unfold plStep; rw [if_neg (by simp [hk])]
    rw [kset_new (kget_none.1 hk)] at q2
    exact q2.fit (by simp)
theorem plE_place {p : List Blk} (l : List (Nat × Int)) : ∀ E, (∀ (k : Int) u, kget k E = some u → ∃ x, u = placeV x) → ∀ (k : Int) u, kget k (l.foldl (plStep (plD p)) E) = some u → ∃ x, u = placeV x := by
  intro E hE k u h
  rw [plE_get] at h
  cases hk : kget k E with
  | some w => rw [hk] at h; cases h; exact hE _ _ hk
  | none =>
    rw [hk] at h
    simp only [Option.map_eq_some_iff] at h
    obtain ⟨x, _, rfl⟩ := h
    exact ⟨_, rfl⟩
theorem plE_final (p : List Blk) : PlaceE p (plE (plD p) (prs 0 p)) := by
  intro v
  unfold plE
  rw [plE_get]
  simp only [kget]
  refine findO_prs (plD p) v p 0 fun j b hj => ?_
  simp [plD, hj]
theorem place_walk {p : List Blk} {σ : GS} {env : Env} (hp : lensB p < 2 ^ 40) (hlen : env.length = 31) (h1 : env[1]? = some (.ptr σ.length 0)) (h3 : env[3]? = some (.ptr (σ.length + 2) 0)) {Q : Exit → Env → GS → Prop}
    (kN : ∀ M o τ, (∀ τ, MpO kint (σ ++ (.row false [fblks p] :: M :: τ)) (σ.length + 1) (plE (plD p) (prs 0 p))) → Q .normal env (σ ++ (.row false [fblks p] :: M :: .row false [.map (σ.length + 1)] :: o :: τ))) :
    GCall Try.prog F_prefix_each_1 [.yield (σ.length + 3), .fptr [fblks p]] (σ ++ [.row false [fblks p], .mp [] ([], 0), .row false [.map (σ.length + 1)], .loop (lgR env [11, 12] (rngA Try.f42 0) (rngB Try.f42 0))]) fun _ σ' => grange (σ.length + 3) env Q σ' := by
  refine p_each1_ok hp (fun n σ' => ∃ M τ, σ' = σ ++ (.row false [fblks p] :: M :: .row false [.map (σ.length + 1)] :: .loop (lgR env [11, 12] (rngA Try.f42 0) (rngB Try.f42 0)) :: τ) ∧ ∀ τ, MpO kint (σ ++ (.row false [fblks p] :: M :: τ)) (σ.length + 1) (plE (plD p) ((prs 0 p).take n)))
    (fun σ' => False) ?_ ?_ ?_ ?_ ?_
  · rintro n _ o ⟨M, τ, rfl, hM⟩
    exact ⟨M, τ ++ [o], by simp, hM⟩
  · refine ⟨_, [], rfl, fun τ => ?_⟩
    exact ⟨by simp [plE], ([], 0), ⟨by simp [plE], by simp, by simp⟩, by simp [kenc, plE]⟩
  · rintro n i v _ hn ⟨M, τ, rfl, hM⟩
    obtain ⟨b, _, hb, _⟩ := prs_mem (List.mem_of_getElem? hn)
    refine place_round hp (by simpa using hb) hlen h1 h3 hM (plE_place _ _ fun k u h => by simp [kget] at h) fun M' τ' hM' => .inl ⟨rfl, M', τ', rfl, fun τ1 => ?_⟩
    have := hM' τ1
    unfold plE at this ⊢
    rw [take_get hn, List.foldl_append]
    exact this
  · rintro _ ⟨M, τ, rfl, hM⟩
    have hM' : ∀ τ, MpO kint (σ ++ (.row false [fblks p] :: M :: τ)) (σ.length + 1) (plE (plD p) (prs 0 p)) := fun τ => by
      have := hM τ
      rw [List.take_of_length_le (by rw [prs_len]; omega)] at this
      exact this
    refine grange_normal (e0 := env) (ps := [11, 12]) (a := rngA Try.f42 0) (b := rngB Try.f42 0) (by simp) ?_
    rw [set_tail]
    exact kN _ _ _ hM'
  · rintro _ h
    exact h.elim
/-- The places of numbers: a map of the call's own. -/
theorem p_places_ok {p : List Blk} {σ : GS} {Post : DV → GS → Prop} (hp : lensB p < 2 ^ 40) (k : ∀ E σ', PlaceE p E → E = plE (plD p) (prs 0 p) → MpO kint σ' (σ.length + 1) E → Fr σ.length σ σ' → Post (.map (σ.length + 1)) σ') : GCall Try.prog F_prefix_places [fblks p] σ Post := by
  refine gc_prefix_places ?_
  simp [G_prefix_places, genv0, List.replicate]
  refine p_each_ok ?_
  simp
  refine rangeB_intro ?_
  simp
  refine place_walk hp (by simp) (by simp) (by simp) fun M o τ hM => ?_
  simp
  exact k _ _ (plE_final p) rfl (hM _) (Fr.rfl'.app _)
end Go.Gh
namespace Go.Gh
open Go.RowKit Go.Proofs
set_option linter.unusedVariables false
set_option linter.unusedSimpArgs false
set_option maxRecDepth 100000
theorem place_lookup {p : List Blk} {E : List (Int × DV)} {σ : GS} {id : Nat} (hE : PlaceE p E) (hM : MpO kint σ id E) (v : Int) : gload (.lookup (.int .i64) (.agg [.int .i64 0, .bool false]) true) [.map id, .int .i64 v] σ = some (match findO 0 p v with | some x => .tuple [placeV x, .bool true] | none => .tuple [.agg [.int .i64 0, .bool false], .bool false]) := by
  rw [hM.lookup (kt := .int .i64) v _ true, hE v]
  cases findO 0 p v <;> rfl
theorem p_last_ok {p : List Blk} {E : List (Int × DV)} {id : Nat} {lits : List Int} {ex : Bool} {σ : GS} {Post : DV → GS → Prop} (hE : PlaceE p E) (hM : MpO kint σ id E) (hl : lits.length < 2 ^ 40) (h : Post (.int .i64 (lastB p lits ex)) σ) : GCall Try.prog F_prefix_last [.map id, fints lits, .bool ex] σ Post := by
  refine GCall.say (r := .int .i64 (lastB p lits ex)) ?_ rfl h
  refine gc_prefix_last ?_
  simp [G_prefix_last, genv0, List.replicate]
  refine gfor lits.length (fun i e σ' => Fr σ.length σ σ' ∧ ∃ out, lastB p lits ex = (lits.drop i).foldl (lastStep p ex) out ∧ e = mkEnv 42 [(0, .map id), (2, .bool ex), (7, .int .i64 out), (12, fints lits), (13, .int .i64 lits.length), (14, .int .i64 i)]) _ ?_ ⟨.rfl', -1, rfl, rfl⟩ ?_
  · simp [mkEnv, List.replicate]
  rintro i _ σ1 hi ⟨hF, out, hI, rfl⟩
  simp [mkEnv, List.replicate]
  by_cases hlt : i < lits.length
  · obtain ⟨x, hx⟩ := nth_lt hlt
    have hx' := nth_get hx
    rw [drop_get hx', List.foldl_cons] at hI
    have es : IntKind.i64.wrap ((i : Int) + 1) = (i : Int) + 1 := by rw [wrap_small] <;> omega
    have hM1 : MpO kint σ1 id E := hM.fit (hF.get _ hM.dom)
    simp [hlt, hx]
    refine p_abs_ok ?_
    simp [place_lookup hE hM1]
    cases hf : findO 0 p (absW x) with
    | none =>
      have hs : lastStep p ex out x = out := by unfold lastStep ofB; split <;> simp_all
      simp [es]
      exact forK_go _ hlt (by simp [mkEnv, List.replicate]) ⟨hF.app _, out, by rw [hI, hs], rfl⟩
    | some y =>
      obtain ⟨k, e⟩ := y
      by_cases h0 : x = -9223372036854775808
      · have hs : lastStep p ex out x = out := by unfold lastStep ofB; simp [h0]
        simp [placeV, h0, es]
        exact forK_go _ hlt (by simp [mkEnv, List.replicate]) ⟨hF.app _, out, by rw [hI, hs], rfl⟩
      · by_cases he : e = ex
        · have hs : lastStep p ex out x = max out k := by unfold lastStep ofB; simp [h0, hf, he]
          simp [placeV, h0, he, es]
          exact forK_go _ hlt (by simp [mkEnv, List.replicate]) ⟨hF.app _, max out k, by rw [hI, hs], rfl⟩
        · have hs : lastStep p ex out x = out := by unfold lastStep ofB; simp [h0, hf, he]
          have he2 : (e == ex) = false := by simpa using he
          simp [placeV, h0, he2, es]
          exact forK_go _ hlt (by simp [mkEnv, List.replicate]) ⟨hF.app _, out, by rw [hI, hs], rfl⟩
  · have : i = lits.length := by omega
    subst this
    rw [List.drop_length] at hI
    simp
    exact ⟨hF, by rw [hI]; rfl⟩
theorem p_Reduce_1_ok {p : List Blk} {E : List (Int × DV)} {id b7 b5 b8 : Nat} {x last : Int} {cube : Bool} {σ : GS} {Post : DV → GS → Prop} (hE : PlaceE p E) (hM : MpO kint σ id E) (h7 : σ[b7]? = some (.row false [.map id])) (h5 : σ[b5]? = some (.row false [.bool cube])) (h8 : σ[b8]? = some (.row false [.int .i64 last]))
    (h : Post (.bool (goneB p cube last x)) σ) : GCall Try.prog F_prefix_Reduce_1 [.int .i64 x, .ptr b7 0, .ptr b5 0, .ptr b8 0] σ Post := by
  refine GCall.say (r := .bool (goneB p cube last x)) ?_ rfl h
  refine gc_prefix_Reduce_1 ?_
  have d7 := get_dom h7
  have d5 := get_dom h5
  have d8 := get_dom h8
  have l7 : gload (.load 1 false) [.ptr b7 0] σ = some (.map id) := by rw [ld_at h7]; rfl
  have l5 : ∀ τ, gload (.load 1 false) [.ptr b5 0] (σ ++ τ) = some (.bool cube) := fun τ => by rw [ld_app d5, ld_at h5]; rfl
  have l8 : ∀ τ, gload (.load 1 false) [.ptr b8 0] (σ ++ τ) = some (.int .i64 last) := fun τ => by rw [ld_app d8, ld_at h8]; rfl
  simp [G_prefix_Reduce_1, genv0, List.replicate, l7]
  refine p_abs_ok ?_
  have hM1 : ∀ τ, MpO kint (σ ++ τ) id E := fun τ => hM.fit (by rw [List.getElem?_append_left hM.dom])
  simp [place_lookup hE (hM1 _)]
  cases hf : findO 0 p (absW x) with
  | none =>
    have hg : goneB p cube last x = false := by unfold goneB ofB; split <;> simp_all
    simp [hg]
  | some y =>
    obtain ⟨k, e⟩ := y
    by_cases h0 : x = -9223372036854775808
    · have hg : goneB p cube last x = false := by unfold goneB ofB; simp [h0]
      simp [placeV, h0, hg]
      simpa [h0] using hg
    · have hg : goneB p cube last x = (decide (e = cube) && decide (last < k)) := by unfold goneB ofB; simp [h0, hf]
      rw [hg]
      by_cases he : e = cube
      · simp [placeV, h0, he, l5, l8]
      · have he2 : (e == cube) = false := by simpa using he
        simp [placeV, h0, he, he2, l5, l8]
end Go.Gh
namespace Go.Gh
open Go.RowKit Go.Proofs
set_option linter.unusedVariables false
set_option linter.unusedSimpArgs false
set_option maxRecDepth 100000
theorem p_Reduce_ok {p : List Blk} {lits : List Int} {cube : Bool} {σ : GS} {Post : DV → GS → Prop} (hp : lensB p < 2 ^ 40) (hl : lits.length < 2 ^ 40) (h : Post (fints (reduceB p lits cube)) σ) : GCall Try.prog F_prefix_Reduce [fblks p, fints lits, .bool cube] σ Post := by
  refine GCall.pure (r := fints (reduceB p lits cube)) ?_ (by simp) h
  refine gc_prefix_Reduce ?_
  simp [G_prefix_Reduce, genv0, List.replicate]
  refine p_places_ok hp fun E σ1 hE _ hM hF => ?_
  have hge := hF.len
  simp at hge
  have hb5 : σ1[σ.length]? = some (.row false [.bool cube]) := by rw [hF.get _ (by simp)]; simp
  have l5 : ∀ τ, gload (.load 1 false) [.ptr σ.length 0] (σ1 ++ τ) = some (.bool cube) := fun τ => by rw [ld_app (by omega), ld_at hb5]; rfl
  simp at hM
  have hM1 : ∀ τ, MpO kint (σ1 ++ τ) (σ.length + 1 + 1) E := fun τ => hM.fit (by rw [List.getElem?_append_left hM.dom])
  simp [l5]
  refine p_last_ok hE (hM1 _) hl ?_
  simp
  refine clone_frz (n := σ1.length + 2) (by omega) (by simp) fun s σ2 hO hF2 hhas hcap => ?_
  simp
  have e7 : σ2[σ1.length]? = some (.row false [.map (σ.length + 1 + 1)]) := by rw [hF2.get _ (by simp)]; simp
  have e8 : σ2[σ1.length + 1]? = some (.row false [.int .i64 (lastB p lits !cube)]) := by rw [hF2.get _ (by simp)]; simp
  have e5 : σ2[σ.length]? = some (.row false [.bool cube]) := by rw [hF2.get _ (by simp; omega), List.getElem?_append_left (by omega)]; exact hb5
  have eM : MpO kint σ2 (σ.length + 1 + 1) E := (hM1 _).fit (hF2.get _ (by have := (hM1 []).dom; simp at this ⊢; omega))
  have hlow : ∀ j, j < σ1.length + 2 → ¬ s.has j := fun j hj hs => by have := hhas j hs; simp at this; omega
  refine del_ok (pre := []) (p := goneB p cube (lastB p lits !cube)) hO hcap hl (fun x hx σ' hσ K hK => ?_) fun σ' hσ hlen => ?_
  · have hid := hM.dom
    exact p_Reduce_1_ok hE (eM.fit (hσ _ (hlow _ (by omega)))) ((hσ _ (hlow _ (by omega))).trans e7) ((hσ _ (hlow _ (by omega))).trans e5) ((hσ _ (hlow _ (by omega))).trans e8) hK
  · simp
    refine ⟨⟨by rw [hlen]; have := hF2.len; simp at this; omega, fun j hj => ?_⟩, .same _⟩
    rw [hσ j (hlow j (by omega)), hF2.get j (by simp; omega), List.getElem?_append_left (by omega), hF.get j (by simp; omega), List.getElem?_append_left hj]
end Go.Gh
namespace Go.Gh
open Go.RowKit Go.Proofs
set_option linter.unusedVariables false
set_option linter.unusedSimpArgs false
set_option maxRecDepth 100000
theorem l_wide_one {p : List Blk} {most : Int} {σ : GS} {Post : DV → GS → Prop} (hp : p.length < 2 ^ 60) (h : ∀ b, Post (.bool b) σ) : GCall Try.prog F_skolemlaw03_wide [fblks p, .nils, .int .i64 most] σ Post := by
  refine GCall.reads (args' := [fblks p, fcls [], .int .i64 most]) (.cons (.same _) (.cons (.nils 1) (.cons (.same _) .nil))) (l_wide_any hp (by simp) h)
theorem reduceB_len (p : List Blk) (lits : List Int) (cube : Bool) : (reduceB p lits cube).length ≤ lits.length := List.length_filter_le _ _
theorem findT_none : findT none = .tuple [.int .i64 0, .bool false, .bool false] := rfl
theorem findT_some (k : Nat) (e : Bool) : findT (some (k, e)) = .tuple [.int .i64 k, .bool e, .bool true] := rfl
set_option maxHeartbeats 2000000 in
theorem reduces_ok {p : List Blk} {lits : List Int} {cube : Bool} (hp : lensB p < 2 ^ 40) (hl : lits.length < 2 ^ 40) (hw : WfI lits) {σ : GS} {Post : DV → GS → Prop} (h : Post (.bool true) σ) : GCall Try.prog F_skolemlaw03_PrefixReduces [fblks p, fints lits, .bool cube] σ Post := by
  have hlb := lensB_flat p
  refine GCall.say (r := .bool true) ?_ rfl h
  refine gc_skolemlaw03_PrefixReduces ?_
  simp [G_skolemlaw03_PrefixReduces, genv0, List.replicate]
  have hhead : ∀ τ : GS, GCall Try.prog F_skolemlaw03_head [] τ fun v σ' => v = .bool true ∧ σ' = τ := fun τ => head_ok ⟨rfl, rfl⟩
  refine l_wide_one (by omega) fun b => ?_
  cases b with
  | true =>
    simp
    refine head_ok ?_
    simp
    exact .rfl'
  | false =>
    simp
    by_cases h100 : (100 : Int) < lits.length
    · simp [h100]
      refine head_ok ?_
      simp
      exact .rfl'
    simp [h100]
    refine r_May_ok hp ?_
    cases hm : mayB p with
    | false =>
      simp
      refine head_ok ?_
      simp
      exact .rfl'
    | true =>
      simp
      refine p_Reduce_ok hp hl ?_
      have hrl := reduceB_len p lits cube
      obtain ⟨L, hL⟩ : ∃ L, reduceB p lits cube = L := ⟨_, rfl⟩
      obtain ⟨keep, hk⟩ : ∃ keep : Int → Bool, (fun x => !goneB p cube (lastB p lits !cube) x) = keep := ⟨_, rfl⟩
      have hLk : L = lits.filter keep := by rw [← hL, ← hk]; rfl
      have hag : reduceB p L cube = L := by rw [← hL]; exact reduceB_again p lits cube
      rw [hL] at hrl ⊢
      simp
      refine gfor lits.length (fun i e σ' => σ' = σ ∧ ∃ n : Nat, ((lits.take i).filter keep).length = n ∧ e = mkEnv 118 [(0, fblks p), (1, fints lits), (2, .bool cube), (7, fints L), (8, .int .i64 n), (9, .int .i64 i)]) _ ?_ ⟨rfl, 0, rfl, rfl⟩ ?_
      · simp [mkEnv, List.replicate]
      rintro i _ σ hi ⟨rfl, n, hn, rfl⟩
      simp [mkEnv, List.replicate]
      by_cases hlt : i < lits.length
      · obtain ⟨x, hx⟩ := nth_lt hlt
        have hx' := nth_get hx
        have hxw := hw x (List.mem_of_getElem? hx')
        have es : IntKind.i64.wrap ((i : Int) + 1) = (i : Int) + 1 := by rw [wrap_small] <;> omega
        have htl : ((lits.take i).filter keep).length ≤ i := by refine Nat.le_trans (List.length_filter_le _ _) ?_; simp; omega
        have htk : ((lits.take (i + 1)).filter keep).length = n + (if keep x = true then 1 else 0) := by
          rw [take_get hx', List.filter_append, List.length_append, hn]
          rw [List.filter_cons]; split <;> rfl
        by_cases hkx : keep x = true
        · have hat : nth L n = some x := by rw [hLk, ← hn]; exact kept_at hx' hkx
          have hnl := get_dom (show L[n]? = some x from hat)
          have es2 : IntKind.i64.wrap ((n : Int) + 1) = ((n + 1 : Nat) : Int) := by rw [wrap_small] <;> omega
          simp [hlt, hnl, hat, hx, es2, es]
          exact forK_go _ hlt (by simp [mkEnv, List.replicate]) ⟨rfl, n + 1, by rw [htk, if_pos hkx], rfl⟩
        · have hgx : goneB p cube (lastB p lits !cube) x = true := by
            have : keep x = false := by simpa using hkx
            rw [← hk] at this; simpa using this
          obtain ⟨k, hg1, hg2⟩ := goneB_some hgx
          have hf := ofB_find hg1
          have htk' : ((lits.take (i + 1)).filter keep).length = n := by rw [htk, if_neg hkx]; rfl
          have hin : ∀ K : DV → GS → Prop, K (.tuple [.int .i64 k, .bool cube, .bool true]) σ → GCall Try.prog F_prefix_Find [fblks p, .int .i64 (absW x)] σ K := fun K hK => p_Find_ok hp (by rw [hf]; exact hK)
          by_cases hnl : n < L.length
          · obtain ⟨y, hy⟩ := nth_lt hnl
            have hyx : ¬ y = x := fun e => kept_not (f := keep) (l := lits) (n := n) (x := x) (by simpa using hkx) (by rw [← hLk, ← e]; exact hy)
            simp [hlt, hnl, hy, hx, hyx]
            refine r_Abs_ok ?_
            rw [absW_eq hxw]
            simp
            refine hin _ ?_
            simp
            refine gfor lits.length (fun j e σ' => σ' = σ ∧ e = mkEnv 118 [(0, fblks p), (1, fints lits), (2, .bool cube), (7, fints L), (8, .int .i64 n), (9, .int .i64 i), (10, .int .i64 k), (13, .int .i64 j)]) _ ?_ ⟨rfl, rfl⟩ ?_
            · simp [mkEnv, List.replicate]
            rintro j _ σ hj ⟨rfl, rfl⟩
            simp [mkEnv, List.replicate]
            by_cases hjl : j < lits.length
            · obtain ⟨z, hz⟩ := nth_lt hjl
              have hzm := List.mem_of_getElem? (nth_get hz)
              have hzw := hw z hzm
              have es3 : IntKind.i64.wrap ((j : Int) + 1) = (j : Int) + 1 := by rw [wrap_small] <;> omega
              simp [hjl, hz]
              refine r_Abs_ok ?_
              rw [absW_eq hzw]
              simp
              refine p_Find_ok hp ?_
              cases hfz : findO 0 p (absW z) with
              | none =>
                simp [findT_none, es3]
                exact forK_go _ hjl (by simp [mkEnv, List.replicate]) ⟨rfl, rfl⟩
              | some y =>
                obtain ⟨c, e⟩ := y
                by_cases he : e = cube
                · simp [findT_some, he, es3]
                  exact forK_go _ hjl (by simp [mkEnv, List.replicate]) ⟨rfl, rfl⟩
                · have he2 : (e != cube) = true := by simpa using he
                  have hen : e = !cube := by cases e <;> cases cube <;> simp_all
                  have hc : (c : Int) ≤ lastB p lits !cube := lastF_mem (-1) hzm (by rw [← hen]; exact find_ofB hm hfz)
                  have hck : ¬ (k < c) := by omega
                  simp [findT_some, he2, es3, hck]
                  exact forK_go _ hjl (by simp [mkEnv, List.replicate]) ⟨rfl, rfl⟩
            · have : j = lits.length := by omega
              subst this
              simp [es]
              exact forK_go _ hlt (by simp [mkEnv, List.replicate]) ⟨rfl, n, htk', rfl⟩
          · simp [hlt, hnl, hx]
            refine r_Abs_ok ?_
            rw [absW_eq hxw]
            simp
            refine hin _ ?_
            simp
            refine gfor lits.length (fun j e σ' => σ' = σ ∧ e = mkEnv 118 [(0, fblks p), (1, fints lits), (2, .bool cube), (7, fints L), (8, .int .i64 n), (9, .int .i64 i), (10, .int .i64 k), (13, .int .i64 j)]) _ ?_ ⟨rfl, rfl⟩ ?_
            · simp [mkEnv, List.replicate]
            rintro j _ σ hj ⟨rfl, rfl⟩
            simp [mkEnv, List.replicate]
            by_cases hjl : j < lits.length
            · obtain ⟨z, hz⟩ := nth_lt hjl
              have hzm := List.mem_of_getElem? (nth_get hz)
              have hzw := hw z hzm
              have es3 : IntKind.i64.wrap ((j : Int) + 1) = (j : Int) + 1 := by rw [wrap_small] <;> omega
              simp [hjl, hz]
              refine r_Abs_ok ?_
              rw [absW_eq hzw]
              simp
              refine p_Find_ok hp ?_
              cases hfz : findO 0 p (absW z) with
              | none =>
                simp [findT_none, es3]
                exact forK_go _ hjl (by simp [mkEnv, List.replicate]) ⟨rfl, rfl⟩
              | some y =>
                obtain ⟨c, e⟩ := y
                by_cases he : e = cube
                · simp [findT_some, he, es3]
                  exact forK_go _ hjl (by simp [mkEnv, List.replicate]) ⟨rfl, rfl⟩
                · have he2 : (e != cube) = true := by simpa using he
                  have hen : e = !cube := by cases e <;> cases cube <;> simp_all
                  have hc : (c : Int) ≤ lastB p lits !cube := lastF_mem (-1) hzm (by rw [← hen]; exact find_ofB hm hfz)
                  have hck : ¬ (k < c) := by omega
                  simp [findT_some, he2, es3, hck]
                  exact forK_go _ hjl (by simp [mkEnv, List.replicate]) ⟨rfl, rfl⟩
            · have : j = lits.length := by omega
              subst this
              simp [es]
              exact forK_go _ hlt (by simp [mkEnv, List.replicate]) ⟨rfl, n, htk', rfl⟩
      · have : i = lits.length := by omega
        subst this
        rw [List.take_length, ← hLk] at hn
        subst hn
        simp
        refine p_Reduce_ok hp (by omega) ?_
        rw [hag]
        simp
        refine r_Ints_ok (by omega) ?_
        simp
        refine head_ok ?_
        simp
        exact .rfl'
end Go.Gh
