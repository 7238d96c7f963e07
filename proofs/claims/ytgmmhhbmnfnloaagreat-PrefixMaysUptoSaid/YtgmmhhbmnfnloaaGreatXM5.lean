/-
  Proved: May, MayQbf, MayDqbf, Same and SameDqbf return what the reference returns, for any blocks, formula and Dqbf; where what is read is of bulk at most 1048576.
  Part 5 of 6. Conditions: none. A verified frame that runs compiled texts over a ghost heap, the contracts of the functions that the statement reaches, and the plain law.
-/
import Derived.Test.YtgmmhhbmnfnloaaGreatXM4
import Derived.Test.YtgmmhhbmnfnloaaGreatProg
import Derived.KernelRfl
namespace Go.Gh
open Go.Proofs
theorem seatfollows : Tryz.prog.follows .mixedOrders = true := by kernel_rfl
abbrev F_slices_Insert_api_Block_api_Block : Nat := 86
abbrev F_slices_overlaps_api_Block : Nat := 102
abbrev F_slices_rotateRight_api_Block : Nat := 103
noncomputable abbrev G_slices_Insert_api_Block_api_Block : GFun := ⟨95, [(.tmp 6)], (.seq (.region [⟨0, ⟨(some 6), none, (.pure .id), [(.const .nils)]⟩, []⟩]) (.seq (.region [⟨0, ⟨(some 10), none, (.pure .id), [(.tmp 0)]⟩, []⟩, ⟨0, ⟨(some 11), none, (.pure .id), [(.tmp 1)]⟩, []⟩, ⟨0, ⟨(some 12), none, (.pure (.slice 2 true false false)), [(.tmp 10), (.tmp 11)]⟩, []⟩]) (.seq (.region [⟨0, ⟨(some 13), none, (.pure .id), [(.tmp 2)]⟩, []⟩, ⟨0, ⟨(some 14), none, (.pure .len), [(.tmp 13)]⟩, []⟩, ⟨0, ⟨(some 7), none, (.pure .id), [(.tmp 14)]⟩, []⟩]) (.seq (.seq (.region [⟨0, ⟨(some 15), none, (.pure .id), [(.tmp 7)]⟩, []⟩, ⟨0, ⟨(some 16), none, (.pure (.bin .eql .none)), [(.tmp 15), (.const (.int .i64 0))]⟩, []⟩]) (.cond (.tmp 16) (.seq (.region [⟨0, ⟨(some 17), none, (.pure .id), [(.tmp 0)]⟩, []⟩, ⟨0, ⟨(some 6), none, (.pure .id), [(.tmp 17)]⟩, []⟩]) .ret) .skip)) (.seq (.region [⟨0, ⟨(some 18), none, (.pure .id), [(.tmp 0)]⟩, []⟩, ⟨0, ⟨(some 19), none, (.pure .len), [(.tmp 18)]⟩, []⟩, ⟨0, ⟨(some 8), none, (.pure .id), [(.tmp 19)]⟩, []⟩]) (.seq (.seq (.region [⟨0, ⟨(some 20), none, (.pure .id), [(.tmp 1)]⟩, []⟩, ⟨0, ⟨(some 21), none, (.pure .id), [(.tmp 8)]⟩, []⟩, ⟨0, ⟨(some 22), none, (.pure (.bin .eql .none)), [(.tmp 20), (.tmp 21)]⟩, []⟩]) (.cond (.tmp 22) (.seq (.region [⟨0, ⟨(some 23), none, (.pure .id), [(.tmp 0)]⟩, []⟩, ⟨0, ⟨(some 24), none, (.pure .id), [(.tmp 2)]⟩, []⟩, ⟨0, ⟨(some 25), none, (.imp (.append 2 32)), [(.tmp 23), (.tmp 24)]⟩, []⟩, ⟨0, ⟨(some 6), none, (.pure .id), [(.tmp 25)]⟩, []⟩]) .ret) .skip)) (.seq (.seq (.region [⟨0, ⟨(some 26), none, (.pure .id), [(.tmp 8)]⟩, []⟩, ⟨0, ⟨(some 27), none, (.pure .id), [(.tmp 7)]⟩, []⟩, ⟨0, ⟨(some 28), none, (.pure (.bin .add .none)), [(.tmp 26), (.tmp 27)]⟩, []⟩, ⟨0, ⟨(some 29), none, (.pure .id), [(.tmp 0)]⟩, []⟩, ⟨0, ⟨(some 30), none, (.pure .cap), [(.tmp 29)]⟩, []⟩, ⟨0, ⟨(some 31), none, (.pure (.bin .gtr .none)), [(.tmp 28), (.tmp 30)]⟩, []⟩]) (.cond (.tmp 31) (.seq (.region [⟨0, ⟨(some 32), none, (.pure .id), [(.tmp 0)]⟩, []⟩, ⟨0, ⟨(some 33), none, (.pure .id), [(.tmp 1)]⟩, []⟩, ⟨0, ⟨(some 34), none, (.pure (.slice 2 false true false)), [(.tmp 32), (.tmp 33)]⟩, []⟩, ⟨0, ⟨(some 35), none, (.pure .id), [(.tmp 8)]⟩, []⟩, ⟨0, ⟨(some 36), none, (.pure .id), [(.tmp 7)]⟩, []⟩, ⟨0, ⟨(some 37), none, (.pure (.bin .add .none)), [(.tmp 35), (.tmp 36)]⟩, []⟩, ⟨0, ⟨(some 38), none, (.pure .id), [(.tmp 1)]⟩, []⟩, ⟨0, ⟨(some 39), none, (.pure (.bin .sub .none)), [(.tmp 37), (.tmp 38)]⟩, []⟩, ⟨0, ⟨(some 40), none, (.imp (.appendz 2 32 [(.bool false), .nils])), [(.tmp 34), (.tmp 39)]⟩, []⟩, ⟨0, ⟨(some 9), none, (.pure .id), [(.tmp 40)]⟩, []⟩]) (.seq (.region [⟨0, ⟨(some 41), none, (.pure .id), [(.tmp 9)]⟩, []⟩, ⟨0, ⟨(some 42), none, (.pure .id), [(.tmp 1)]⟩, []⟩, ⟨0, ⟨(some 43), none, (.pure (.slice 2 true false false)), [(.tmp 41), (.tmp 42)]⟩, []⟩, ⟨0, ⟨(some 44), none, (.pure .id), [(.tmp 2)]⟩, []⟩, ⟨0, ⟨(some 45), none, (.imp (.copy 2)), [(.tmp 43), (.tmp 44)]⟩, []⟩]) (.seq (.region [⟨0, ⟨(some 46), none, (.pure .id), [(.tmp 9)]⟩, []⟩, ⟨1, ⟨(some 47), none, (.pure .id), [(.tmp 1)]⟩, []⟩, ⟨2, ⟨(some 48), none, (.pure .id), [(.tmp 7)]⟩, []⟩, ⟨3, ⟨(some 49), none, (.pure (.bin .add .none)), [(.tmp 47), (.tmp 48)]⟩, []⟩, ⟨4, ⟨(some 50), none, (.pure (.slice 2 true false false)), [(.tmp 46), (.tmp 49)]⟩, []⟩, ⟨5, ⟨(some 51), none, (.pure .id), [(.tmp 0)]⟩, []⟩, ⟨6, ⟨(some 52), none, (.pure .id), [(.tmp 1)]⟩, []⟩, ⟨7, ⟨(some 53), none, (.pure (.slice 2 true false false)), [(.tmp 51), (.tmp 52)]⟩, []⟩, ⟨8, ⟨(some 54), none, (.imp (.copy 2)), [(.tmp 50), (.tmp 53)]⟩, []⟩]) (.seq (.region [⟨0, ⟨(some 55), none, (.pure .id), [(.tmp 9)]⟩, []⟩, ⟨0, ⟨(some 6), none, (.pure .id), [(.tmp 55)]⟩, []⟩]) .ret)))) .skip)) (.seq (.region [⟨0, ⟨(some 56), none, (.pure .id), [(.tmp 0)]⟩, []⟩, ⟨0, ⟨(some 57), none, (.pure .id), [(.tmp 8)]⟩, []⟩, ⟨0, ⟨(some 58), none, (.pure .id), [(.tmp 7)]⟩, []⟩, ⟨0, ⟨(some 59), none, (.pure (.bin .add .none)), [(.tmp 57), (.tmp 58)]⟩, []⟩, ⟨0, ⟨(some 60), none, (.pure (.slice 2 false true false)), [(.tmp 56), (.tmp 59)]⟩, []⟩, ⟨0, ⟨(some 0), none, (.pure .id), [(.tmp 60)]⟩, []⟩]) (.seq (.seq (.region [⟨0, ⟨(some 61), none, (.pure .id), [(.tmp 2)]⟩, []⟩, ⟨0, ⟨(some 62), none, (.pure .id), [(.tmp 0)]⟩, []⟩, ⟨0, ⟨(some 63), none, (.pure .id), [(.tmp 1)]⟩, []⟩, ⟨0, ⟨(some 64), none, (.pure .id), [(.tmp 7)]⟩, []⟩, ⟨0, ⟨(some 65), none, (.pure (.bin .add .none)), [(.tmp 63), (.tmp 64)]⟩, []⟩, ⟨0, ⟨(some 66), none, (.pure (.slice 2 true false false)), [(.tmp 62), (.tmp 65)]⟩, []⟩, ⟨0, ⟨(some 67), none, (.xcall F_slices_overlaps_api_Block), [(.tmp 61), (.tmp 66)]⟩, []⟩, ⟨0, ⟨(some 68), none, (.pure (.un .not)), [(.tmp 67)]⟩, []⟩]) (.cond (.tmp 68) (.seq (.region [⟨0, ⟨(some 69), none, (.pure .id), [(.tmp 0)]⟩, []⟩, ⟨1, ⟨(some 70), none, (.pure .id), [(.tmp 1)]⟩, []⟩, ⟨2, ⟨(some 71), none, (.pure .id), [(.tmp 7)]⟩, []⟩, ⟨3, ⟨(some 72), none, (.pure (.bin .add .none)), [(.tmp 70), (.tmp 71)]⟩, []⟩, ⟨4, ⟨(some 73), none, (.pure (.slice 2 true false false)), [(.tmp 69), (.tmp 72)]⟩, []⟩, ⟨5, ⟨(some 74), none, (.pure .id), [(.tmp 0)]⟩, []⟩, ⟨6, ⟨(some 75), none, (.pure .id), [(.tmp 1)]⟩, []⟩, ⟨7, ⟨(some 76), none, (.pure (.slice 2 true false false)), [(.tmp 74), (.tmp 75)]⟩, []⟩, ⟨8, ⟨(some 77), none, (.imp (.copy 2)), [(.tmp 73), (.tmp 76)]⟩, []⟩]) (.seq (.region [⟨0, ⟨(some 78), none, (.pure .id), [(.tmp 0)]⟩, []⟩, ⟨0, ⟨(some 79), none, (.pure .id), [(.tmp 1)]⟩, []⟩, ⟨0, ⟨(some 80), none, (.pure (.slice 2 true false false)), [(.tmp 78), (.tmp 79)]⟩, []⟩, ⟨0, ⟨(some 81), none, (.pure .id), [(.tmp 2)]⟩, []⟩, ⟨0, ⟨(some 82), none, (.imp (.copy 2)), [(.tmp 80), (.tmp 81)]⟩, []⟩]) (.seq (.region [⟨0, ⟨(some 83), none, (.pure .id), [(.tmp 0)]⟩, []⟩, ⟨0, ⟨(some 6), none, (.pure .id), [(.tmp 83)]⟩, []⟩]) .ret))) .skip)) (.seq (.region [⟨0, ⟨(some 84), none, (.pure .id), [(.tmp 0)]⟩, []⟩, ⟨0, ⟨(some 85), none, (.pure .id), [(.tmp 8)]⟩, []⟩, ⟨0, ⟨(some 86), none, (.pure (.slice 2 true false false)), [(.tmp 84), (.tmp 85)]⟩, []⟩, ⟨0, ⟨(some 87), none, (.pure .id), [(.tmp 2)]⟩, []⟩, ⟨0, ⟨(some 88), none, (.imp (.copy 2)), [(.tmp 86), (.tmp 87)]⟩, []⟩]) (.seq (.region [⟨0, ⟨(some 89), none, (.pure .id), [(.tmp 0)]⟩, []⟩, ⟨0, ⟨(some 90), none, (.pure .id), [(.tmp 1)]⟩, []⟩, ⟨0, ⟨(some 91), none, (.pure (.slice 2 true false false)), [(.tmp 89), (.tmp 90)]⟩, []⟩, ⟨0, ⟨(some 92), none, (.pure .id), [(.tmp 7)]⟩, []⟩, ⟨0, ⟨(some 93), none, (.call F_slices_rotateRight_api_Block), [(.tmp 91), (.tmp 92)]⟩, []⟩]) (.seq (.region [⟨0, ⟨(some 94), none, (.pure .id), [(.tmp 0)]⟩, []⟩, ⟨0, ⟨(some 6), none, (.pure .id), [(.tmp 94)]⟩, []⟩]) .ret))))))))))))⟩
theorem c_slices_Insert_api_Block_api_Block : compF Tryz.prog Tryz.f86 = some G_slices_Insert_api_Block_api_Block := by kernel_rfl
theorem gc_slices_Insert_api_Block_api_Block {args : List DV} {σ : GS} {Post : DV → GS → Prop} (h : @exB Tryz.prog ⟨G_slices_Insert_api_Block_api_Block.body⟩ (genv0 args G_slices_Insert_api_Block_api_Block.ntmps) σ ⟨@gretB G_slices_Insert_api_Block_api_Block.results ⟨Post⟩⟩) : GCall Tryz.prog F_slices_Insert_api_Block_api_Block args σ Post := gcall_ofB seatfollows Tryz.func86 (by kernel_rfl) c_slices_Insert_api_Block_api_Block h
end Go.Gh
namespace Go.Gh
open Go.RowKit Go.Proofs
set_option linter.unusedVariables false
set_option linter.unusedSimpArgs false
set_option maxRecDepth 100000
theorem slice_loC {id off L c k sz : Nat} (h : k ≤ L) (h2 : L ≤ c) : gpure (.slice sz true false false) [.slice id off L sz (some c), .int .i64 (k : Int)] = some (.slice id (off + k * sz) (L - k) sz (some (c - k))) := by
  simp [gpure, gslice, gbm, gbh, gbl, gbound, h, h2]
theorem slice_hiC {id off L c k sz : Nat} (h : k ≤ c) : gpure (.slice sz false true false) [.slice id off L sz (some c), .int .i64 (k : Int)] = some (.slice id off k sz (some c)) := by
  simp [gpure, gslice, gbm, gbh, gbl, gbound, h]
theorem slice_loN {id off L k sz : Nat} (h : k ≤ L) : gpure (.slice sz true false false) [.slice id off L sz none, .int .i64 (k : Int)] = some (.slice id (off + k * sz) (L - k) sz none) := by
  simp [gpure, gslice, gbm, gbh, gbl, gbound, h]
theorem gzeros_len (z : List DV) (hz : z ≠ []) (m : Nat) : (gzeros z m).length = m := by
  unfold gzeros
  split
  · simp
  · simp
theorem gread_at {id off len sz : Nat} {cap : Option Nat} {σ : GS} {ro : Bool} {cs : List DV} (h : σ[id]? = some (.row ro cs)) (hl : off + len * sz ≤ cs.length) (h0 : 0 < len) : gread sz (.slice id off len sz cap) σ = some ((cs.drop off).take (len * sz)) := by
  simp only [gread]
  rw [if_neg (by omega), if_pos trivial, h]
  simp only
  rw [if_pos hl]
theorem gread_at0 {id off sz : Nat} {cap : Option Nat} {σ : GS} : gread sz (.slice id off 0 sz cap) σ = some [] := by simp [gread]
@[simp] theorem gp_cap_some (id off n sz c : Nat) : gpure .cap [.slice id off n sz (some c)] = some (.int .i64 c) := rfl
set_option maxHeartbeats 2000000 in
theorem insert_run {id id2 n i : Nat} {cs : List DV} {x y : DV} {σ : GS} (h1 : σ[id]? = some (.row false cs)) (hl : cs.length = n * 2) (h2 : σ[id2]? = some (.row false [x, y])) (hne : id ≠ id2) (hi : i < n) (hn : n < 2 ^ 40) (hf : cs.all DV.flat = true) (hx : x.flat = true) (hy : y.flat = true) :
    GCall Tryz.prog F_slices_Insert_api_Block_api_Block [.slice id 0 n 2 none, .int .i64 i, .slice id2 0 1 2 (some 1)] σ fun v σ' => v = .slice σ.length 0 (n + 1) 2 none ∧ σ' = σ.set id .dead ++ [.row false (cs.take (i * 2) ++ [x, y] ++ cs.drop (i * 2))] := by
  have hid := (List.getElem?_eq_some_iff.1 h1).1
  have hid2 := (List.getElem?_eq_some_iff.1 h2).1
  refine GCall.capsplit h1 (by simpa using hl.symm) fun c hc => ?_
  obtain ⟨A, hA⟩ : ∃ A, cs.take (i * 2) = A := ⟨_, rfl⟩
  obtain ⟨D, hD⟩ : ∃ D, cs.drop (i * 2) = D := ⟨_, rfl⟩
  have hAl : A.length = i * 2 := by rw [← hA]; simp; omega
  have hDl : D.length = (n - i) * 2 := by rw [← hD]; simp; omega
  have hAD : cs = A ++ D := by rw [← hA, ← hD, List.take_append_drop]
  have hDf : D.all DV.flat = true := by
    rw [List.all_eq_true] at hf ⊢
    intro d hd; exact hf d (by rw [hAD]; exact List.mem_append_right _ hd)
  have hxy : [x, y].all DV.flat = true := by simp [hx, hy]
  have w1 : IntKind.i64.wrap ((n : Int) + 1) = n + 1 := by rw [wrap_small] <;> omega
  have w2 : IntKind.i64.wrap ((i : Int) + 1) = i + 1 := by rw [wrap_small] <;> omega
  have w3 : IntKind.i64.wrap ((n : Int) + 1 - i) = n + 1 - i := by rw [wrap_small] <;> omega
  have hin : ¬ ((i : Int) = n) := by omega
  have hin2 : ¬ (i = n) := by omega
  rcases Nat.lt_or_ge n c with hlt | hge
  · obtain ⟨W, hW⟩ : ∃ W, List.replicate ((c - n) * 2) DV.any = W := ⟨_, rfl⟩
    have hWl : W.length = (c - n) * 2 := by rw [← hW]; simp
    rw [hW]
    obtain ⟨τ, hτ⟩ : ∃ τ, σ.set id (.row false (cs ++ W)) = τ := ⟨_, rfl⟩
    have hτl : τ.length = σ.length := by rw [← hτ]; simp
    have t1 : τ[id]? = some (.row false (A ++ D ++ W)) := by rw [← hτ, List.getElem?_set_self hid, hAD]
    have t2 : τ[id2]? = some (.row false [x, y]) := by rw [← hτ, List.getElem?_set_ne hne]; exact h2
    obtain ⟨R, hR⟩ : ∃ R, (A ++ D ++ W).drop ((i + 1) * 2 + D.length) = R := ⟨_, rfl⟩
    obtain ⟨U, hU⟩ : ∃ U, (D ++ W).take 2 = U := ⟨_, rfl⟩
    have hUl : U.length = 2 := by rw [← hU]; simp; omega
    rw [hτ]
    refine GCall.conv (Post0 := fun v σ' => v = .slice id 0 (n + 1) 2 (some c) ∧ σ' = τ.set id (.row false (A ++ [x, y] ++ D ++ R))) ?_ ?_
    · refine gc_slices_Insert_api_Block_api_Block ?_
      have gt : ¬ ((c : Int) < (n : Int) + 1) := by omega
      have s1 := slice_loC (id := id) (off := 0) (L := n) (c := c) (k := i) (sz := 2) (by omega) (by omega)
      have s2 := slice_hiC (id := id) (off := 0) (L := n) (c := c) (k := n + 1) (sz := 2) (by omega)
      have s3 := slice_loC (id := id) (off := 0) (L := n + 1) (c := c) (k := i + 1) (sz := 2) (by omega) (by omega)
      have s4 := slice_loC (id := id) (off := 0) (L := n + 1) (c := c) (k := i) (sz := 2) (by omega) (by omega)
      simp at s1 s2 s3 s4
      have rd1 : gread 2 (.slice id (i * 2) (n + 1 - i) 2 (some (c - i))) τ = some (D ++ W.take 2) := by
        rw [gread_at t1 (by simp only [List.length_append, hAl, hDl, hWl]; omega) (by omega), List.append_assoc, ← hAl, List.drop_left]
        rw [show (n + 1 - i) * 2 = D.length + 2 by omega, List.take_append]
        rw [List.take_of_length_le (by omega), show D.length + 2 - D.length = 2 by omega]
      have cp1 : gimp (.copy 2) [.slice id ((i + 1) * 2) (n - i) 2 (some (c - (i + 1))), .slice id (i * 2) (n + 1 - i) 2 (some (c - i))] τ = some (.int .i64 ((n - i : Nat) : Int), τ.set id (.row false (A ++ U ++ (D ++ R)))) := by
        have m1 : min (n + 1 - i) (n - i) = n - i := by omega
        have ht : (D ++ W.take 2).take ((n - i) * 2) = D := by rw [← hDl, List.take_left]
        have ho : over (A ++ D ++ W) ((i + 1) * 2) D = A ++ U ++ (D ++ R) := by
          unfold over
          rw [hR]
          have : (A ++ D ++ W).take ((i + 1) * 2) = A ++ U := by
            rw [List.append_assoc, List.take_append, List.take_of_length_le (by omega), show (i + 1) * 2 - A.length = 2 by omega, hU]
          rw [this]
        simp only [gimp, rd1, glen, m1, t1, ht]
        rw [if_neg (by omega), if_pos trivial, if_pos ⟨by simp only [List.length_append, hAl, hDl, hWl]; omega, hDf⟩, ho]
      have t3 : (τ.set id (.row false (A ++ U ++ (D ++ R))))[id]? = some (.row false (A ++ U ++ (D ++ R))) := List.getElem?_set_self (by omega)
      have rd2 : gread 2 (.slice id2 0 1 2 (some 1)) (τ.set id (.row false (A ++ U ++ (D ++ R)))) = some [x, y] := by
        rw [gread_at (by rw [List.getElem?_set_ne hne]; exact t2) (by simp) (by omega)]; rfl
      have cp2 : gimp (.copy 2) [.slice id (i * 2) (n + 1 - i) 2 (some (c - i)), .slice id2 0 1 2 (some 1)] (τ.set id (.row false (A ++ U ++ (D ++ R)))) = some (.int .i64 1, τ.set id (.row false (A ++ [x, y] ++ D ++ R))) := by
        have m1 : min 1 (n + 1 - i) = 1 := by omega
        have ho : over (A ++ U ++ (D ++ R)) (i * 2) [x, y] = A ++ [x, y] ++ D ++ R := by
          rw [List.append_assoc, ← hAl, over_end]
          have : (U ++ (D ++ R)).drop [x, y].length = D ++ R := by
            rw [show [x, y].length = U.length by rw [hUl]; rfl, List.drop_left]
          rw [this]; simp
        simp only [gimp, rd2, glen, m1, t3]
        rw [if_neg (by decide), if_pos trivial, if_pos ⟨by simp only [List.length_append, hAl, hUl, hDl]; omega, by simpa using hxy⟩]
        simp only [show ([x, y] : List DV).take (1 * 2) = [x, y] from rfl, ho, List.set_set]
        rfl
      simp [G_slices_Insert_api_Block_api_Block, genv0, List.replicate, s1, s2, hin, hin2, w1, w2, w3, gt]
      have r1 : ∃ r rs, A ++ D ++ W = r :: rs := by
        cases hh : A ++ D ++ W with
        | nil => have := congrArg List.length hh; simp [hAl, hDl] at this; omega
        | cons r rs => exact ⟨r, rs, rfl⟩
      obtain ⟨r, rs, hrs⟩ := r1
      simp [s3]
      refine ovl_ok (P := Tryz.prog) (size := 2) (tS := 22) (tR := 4) (e := 57) Tryz.func102 (by kernel_rfl) (by kernel_rfl) (by kernel_rfl) (by kernel_rfl) (by kernel_rfl) (by kernel_rfl) t2 (by rw [hrs] at t1; exact t1) hne.symm (by omega) (by omega) ?_
      simp only [List.append_assoc, List.cons_append, List.nil_append] at cp1 cp2
      simp [w2, s3, s4, cp1, cp2]
    · rintro N w0 ρ σ' w v rv hr hv ⟨rfl, rfl⟩ hle
      obtain ⟨L, a, c', hL, rfl, k1, k2, k3, k4⟩ := hv.slice_inv
      have := k3 c rfl
      subst this
      have hmv := hr.move hL (List.getElem?_set_self (by omega)) 0 (by omega) ((n + 1) * 2) (by omega)
      refine ⟨.slice σ.length 0 (n + 1) 2 none, _, _, hmv, ?_, ?_, by simp [hτl], rfl, ?_⟩
      · refine ⟨⟨fun j hj => ?_, fun _ _ _ h => h⟩, fun j M hM => ?_, Nat.le_refl _, fun _ _ _ => rfl, fun _ r hr => ⟨r, hr, rfl⟩⟩
        · exact Ren.put_other _ _ (by simp [hτl]; omega)
        · by_cases hj : j = (τ.set id (.row false (A ++ [x, y] ++ D ++ R))).length
          · subst hj
            rw [Ren.put_same] at hM; cases hM
            exact .inl ⟨id, L, hL, rfl⟩
          · rw [Ren.put_other _ _ hj] at hM; exact .inl ⟨j, M, hM, rfl⟩
      · simp only [VR]
        refine ⟨_, a, c', by rw [show σ.length = (τ.set id (.row false (A ++ [x, y] ++ D ++ R))).length by simp [hτl]]; exact Ren.put_same _ _ _, rfl, k1, fun h => by simpa using k2 h, (fun c' h => by cases h), by simpa using k4⟩
      · rw [List.set_set, ← hτ, List.set_set, hA, hD, List.drop_zero]
        congr 3
        rw [List.take_append_of_le_length (by simp [hAl, hDl]; omega), List.take_of_length_le (by simp [hAl, hDl]; omega)]
  · have hcn : c = n := by omega
    subst hcn
    have hset : σ.set id (.row false (cs ++ List.replicate ((c - c) * 2) .any)) = σ := by
      apply List.ext_getElem?
      intro j
      by_cases hj : j = id
      · subst hj; rw [List.getElem?_set_self hid, h1]; simp
      · rw [List.getElem?_set_ne (fun e => hj e.symm)]
    rw [hset]
    obtain ⟨Z, hZ⟩ : ∃ Z, gzeros [DV.bool false, DV.nils] ((c + 1 - i) * 2) = Z := ⟨_, rfl⟩
    have hZl : Z.length = (c + 1 - i) * 2 := by rw [← hZ]; exact gzeros_len _ (by simp) _
    refine GCall.conv (Post0 := fun v σ' => v = .slice σ.length 0 (c + 1) 2 none ∧ σ' = σ ++ [.row false (A ++ [x, y] ++ D)]) ?_ ?_
    · refine gc_slices_Insert_api_Block_api_Block ?_
      have s1 := slice_loC (id := id) (off := 0) (L := c) (c := c) (k := i) (sz := 2) (by omega) (Nat.le_refl _)
      have s2 := slice_hiC (id := id) (off := 0) (L := c) (c := c) (k := i) (sz := 2) (by omega)
      have gt : ((c : Int) < c + 1) := by omega
      simp at s1 s2
      have w4 : IntKind.i64.wrap ((i : Int) + 1) = ((i + 1 : Nat) : Int) := by rw [w2]; omega
      have w5 : ((c : Int) + 1 - i) = ((c + 1 - i : Nat) : Int) := by omega
      have hgo : growOk (c + 1) 32 = true := by simp [growOk]; omega
      have rd1 : gread 2 (.slice id 0 i 2 (some c)) σ = some A := by
        by_cases h0 : i = 0
        · subst h0
          rw [gread_at0]; simp at hA; rw [← hA]
        · rw [gread_at h1 (by omega) (by omega)]; simp [hA]
      have haz : gimp (.appendz 2 32 [.bool false, .nils]) [.slice id 0 i 2 (some c), .int .i64 ((c : Int) + 1 - i)] σ = some (.slice σ.length 0 (c + 1) 2 none, σ ++ [.row false (A ++ Z)]) := by
        have e1 : (0 : Int) < (c : Int) + 1 - i := by omega
        have e2 : i + ((c : Int) + 1 - i).toNat = c + 1 := by omega
        have e3 : ((c : Int) + 1 - i).toNat * 2 = (c + 1 - i) * 2 := by omega
        simp only [gimp]
        rw [if_pos ⟨trivial, e1, by omega, by rw [e2]; exact hgo⟩, rd1]
        simp only
        rw [e2, e3, hZ]
      have hrow1 : (σ ++ [GObj.row false (A ++ Z)])[σ.length]? = some (.row false (A ++ Z)) := by simp
      have s3 := slice_loN (id := σ.length) (off := 0) (L := c + 1) (k := i) (sz := 2) (by omega)
      have s4 := slice_loN (id := σ.length) (off := 0) (L := c + 1) (k := i + 1) (sz := 2) (by omega)
      simp at s3 s4
      have rd2 : gread 2 (.slice id2 0 1 2 (some 1)) (σ ++ [GObj.row false (A ++ Z)]) = some [x, y] := by
        rw [gread_at (getE_append h2) (by simp) (by omega)]; rfl
      have cp1 : gimp (.copy 2) [.slice σ.length (i * 2) (c + 1 - i) 2 none, .slice id2 0 1 2 (some 1)] (σ ++ [.row false (A ++ Z)]) = some (.int .i64 1, σ ++ [.row false (A ++ [x, y] ++ Z.drop 2)]) := by
        have m1 : min 1 (c + 1 - i) = 1 := by omega
        have ho : over (A ++ Z) (i * 2) [x, y] = A ++ [x, y] ++ Z.drop 2 := by rw [← hAl]; exact over_end
        simp only [gimp, rd2, glen, m1, hrow1]
        rw [if_neg (by decide), if_pos trivial, if_pos ⟨by simp only [List.length_append, hAl, hZl]; omega, by simpa using hxy⟩]
        simp only [show ([x, y] : List DV).take (1 * 2) = [x, y] from rfl, ho]
        rw [List.set_append_right _ _ (Nat.le_refl _)]
        simp
      have hrow2 : (σ ++ [GObj.row false (A ++ [x, y] ++ Z.drop 2)])[σ.length]? = some (.row false (A ++ [x, y] ++ Z.drop 2)) := by simp
      have rd3 : gread 2 (.slice id (i * 2) (c - i) 2 (some (c - i))) (σ ++ [GObj.row false (A ++ [x, y] ++ Z.drop 2)]) = some D := by
        rw [gread_at (getE_append h1) (by omega) (by omega), hD, List.take_of_length_le (by omega)]
      have cp2 : gimp (.copy 2) [.slice σ.length ((i + 1) * 2) (c - i) 2 none, .slice id (i * 2) (c - i) 2 (some (c - i))] (σ ++ [.row false (A ++ [x, y] ++ Z.drop 2)]) = some (.int .i64 ((c - i : Nat) : Int), σ ++ [.row false (A ++ [x, y] ++ D)]) := by
        have ho : over (A ++ [x, y] ++ Z.drop 2) ((i + 1) * 2) D = A ++ [x, y] ++ D := by
          have e : (i + 1) * 2 = (A ++ [x, y]).length := by simp [hAl]; omega
          rw [e, over_end]
          have : (Z.drop 2).drop D.length = [] := by rw [List.drop_drop, List.drop_eq_nil_of_le (by omega)]
          rw [this, List.append_nil]
        simp only [gimp, rd3, glen, Nat.min_self, hrow2]
        rw [if_neg (by omega), if_pos trivial, if_pos ⟨by simp [hAl, hZl]; omega, by rw [List.take_of_length_le (by omega)]; exact hDf⟩]
        rw [List.take_of_length_le (show D.length ≤ (c - i) * 2 by omega), ho]
        simp
      simp only [List.append_assoc, List.cons_append, List.nil_append] at cp1 cp2
      simp [G_slices_Insert_api_Block_api_Block, genv0, List.replicate, s1, s2, hin, hin2, w1, w2, w3, gt, haz, s3, cp1, s4, cp2]
    · rintro N w0 ρ σ' w v rv hr hv ⟨rfl, rfl⟩ hle
      refine ⟨_, _, ρ, hr.kill id, Ext.refl _ _ _, hv, by simp, rfl, ?_⟩
      rw [List.set_append_left _ _ hid, hA, hD]
end Go.Gh
namespace Go.Gh
open Go.RowKit Go.Proofs
set_option linter.unusedVariables false
set_option linter.unusedSimpArgs false
set_option maxRecDepth 100000
/-- What slices.Insert does to a copy of a prefix, for the evaluator. -/
noncomputable def insH (args : List DV) (σ : HT) : Option (DV × HT) :=
  match args with
  | [.slice id off n sz none, .int k i, .slice id2 off2 m sz2 (some c2)] => match σ.get id, σ.get id2 with
    | some (.obj (.row false cs)), some (.obj (.row false [x, y])) =>
      if k = .i64 ∧ off = 0 ∧ sz = 2 ∧ off2 = 0 ∧ m = 1 ∧ sz2 = 2 ∧ c2 = 1 ∧ id ≠ id2 ∧ 0 ≤ i ∧ i.toNat < n ∧ n < 1000000 ∧ cs.length = n * 2 ∧ cs.all DV.flat = true ∧ x.flat = true ∧ y.flat = true then
        match (σ.set id (.obj .dead)).push (.obj (.row false (cs.take (i.toNat * 2) ++ [x, y] ++ cs.drop (i.toNat * 2)))) with
        | some σ' => some (.slice σ.n 0 (n + 1) 2 none, σ')
        | none => none
      else none
    | _, _ => none
  | _ => none
noncomputable def insX (f : FuncId) (args : List DV) (σ : HT) : Option (DV × HT) := if f = F_slices_Insert_api_Block_api_Block then insH args σ else none
theorem insX_ok (f : FuncId) (args : List DV) (σ : HT) (v : DV) (σ' : HT) (h : insX f args σ = some (v, σ')) : GCall Tryz.prog f args (den σ) fun a b => a = v ∧ b = den σ' := by
  unfold insX at h
  split at h
  rotate_left
  · cases h
  rename_i hf
  subst hf
  unfold insH at h
  split at h
  rotate_left
  · cases h
  rename_i id off n sz k i id2 off2 m sz2 c2
  split at h
  rotate_left
  · cases h
  rename_i cs x y g1 g2
  split at h
  rotate_left
  · cases h
  rename_i hc
  obtain ⟨rfl, rfl, rfl, rfl, rfl, rfl, rfl, hne, hi0, hin, hn, hl, hf, hx, hy⟩ := hc
  split at h
  rotate_left
  · cases h
  rename_i σ1 hp
  cases h
  obtain ⟨p1, p2⟩ := den_push hp
  rw [den_set] at p1 p2
  have hlen : σ.n = (den σ).length := by
    have e : (σ.set id (.obj .dead)).n = σ.n := by unfold HT.set; split <;> rfl
    rw [← e, p2]; simp
  obtain ⟨j, rfl⟩ : ∃ j : Nat, i = j := ⟨i.toNat, by omega⟩
  simp only [Int.toNat_natCast] at hin p1 ⊢
  refine (insert_run (den_at g1) hl (den_at g2) hne hin (by omega) hf hx hy).mono ?_
  rintro a b ⟨rfl, rfl⟩
  exact ⟨by rw [hlen], by rw [p1]; rfl⟩
/-- A closed call answers true, with the oracle's help. -/
noncomputable def sayTrueX (P : Program) (X : FuncId → List DV → HT → Option (DV × HT)) (n : Nat) (f : FuncId) (args : List DV) : Bool :=
  match (evAllX P (tabOf P) X n).call f args ⟨0, .e⟩ with
  | some (.bool true, _) => true
  | _ => false
theorem sayTrueX_ok {P : Program} (hm : P.follows .mixedOrders = true) {X : FuncId → List DV → HT → Option (DV × HT)} (hX : ∀ f args σ v σ', X f args σ = some (v, σ') → GCall P f args (den σ) fun a b => a = v ∧ b = den σ') {n : Nat} {f : FuncId} {args : List DV} (h : sayTrueX P X n f args = true) : GCall P f args [] fun v _ => v = .bool true := by
  unfold sayTrueX at h
  split at h
  · rename_i s he
    have := (evAllX_ok hm (tabOf_ok P) hX n).call f args ⟨0, .e⟩ _ _ he
    rw [show den ⟨0, .e⟩ = [] by simp [den]] at this
    exact this.mono fun v σ' hh => hh.1
  · cases h
end Go.Gh
namespace Go.Gh
open Go.Proofs
set_option maxRecDepth 100000
theorem head_run : sayTrueX Tryz.prog insX 60 9 [] = true := by kernel_rfl
theorem head_ok {σ : GS} {Post : DV → GS → Prop} (k : Post (.bool true) σ) : GCall Tryz.prog 9 [] σ Post :=
  GCall.closed (sayTrueX_ok seatfollows insX_ok head_run) k
end Go.Gh
namespace Go.Gh
open Go.Proofs
abbrev F_skolemlaw03_wide : Nat := 7
abbrev F_skolemlaw03_broad : Nat := 8
abbrev F_prefix_SameDqbf : Nat := 18
abbrev F_skolemref03_Ints : Nat := 29
abbrev F_slices_Equal_int_int : Nat := 54
abbrev F_slices_EqualFunc_api_Dep_api_Dep_api_Dep_api_Dep : Nat := 55
abbrev F_prefix_SameDqbf_1 : Nat := 56
abbrev F_slices_EqualFunc_int_int_int_int : Nat := 57
noncomputable abbrev G_skolemlaw03_broad : GFun := ⟨39, [(.tmp 4)], (.seq (.region [⟨0, ⟨(some 2), none, (.new .box), [(.tmp 0)]⟩, []⟩, ⟨0, ⟨(some 4), none, (.pure .id), [(.const (.bool false))]⟩, []⟩]) (.seq (.region [⟨0, ⟨(some 7), none, (.pure (.faddr 0)), [(.tmp 2)]⟩, []⟩, ⟨0, ⟨(some 8), none, (.load (.load 1 false)), [(.tmp 7)]⟩, []⟩, ⟨0, ⟨(some 9), none, (.pure .len), [(.tmp 8)]⟩, []⟩, ⟨0, ⟨(some 10), none, (.pure (.faddr 1)), [(.tmp 2)]⟩, []⟩, ⟨0, ⟨(some 11), none, (.load (.load 1 false)), [(.tmp 10)]⟩, []⟩, ⟨0, ⟨(some 12), none, (.pure .len), [(.tmp 11)]⟩, []⟩, ⟨0, ⟨(some 13), none, (.pure (.bin .add .none)), [(.tmp 9), (.tmp 12)]⟩, []⟩, ⟨0, ⟨(some 5), none, (.pure .id), [(.tmp 13)]⟩, []⟩]) (.seq (.seq (.region [⟨0, ⟨(some 6), none, (.pure .id), [(.const (.int .i64 0))]⟩, []⟩]) (.block 0 (.loop (.seq (.seq (.region [⟨0, ⟨(some 14), none, (.pure .id), [(.tmp 6)]⟩, []⟩, ⟨0, ⟨(some 15), none, (.pure (.faddr 1)), [(.tmp 2)]⟩, []⟩, ⟨0, ⟨(some 16), none, (.load (.load 1 false)), [(.tmp 15)]⟩, []⟩, ⟨0, ⟨(some 17), none, (.pure .len), [(.tmp 16)]⟩, []⟩, ⟨0, ⟨(some 18), none, (.pure (.bin .lss .none)), [(.tmp 14), (.tmp 17)]⟩, []⟩]) (.cond (.tmp 18) .skip (.exit 0))) (.seq (.block 1 (.region [⟨0, ⟨(some 21), none, (.pure .id), [(.tmp 5)]⟩, []⟩, ⟨0, ⟨(some 22), none, (.pure (.faddr 1)), [(.tmp 2)]⟩, []⟩, ⟨0, ⟨(some 23), none, (.load (.load 1 false)), [(.tmp 22)]⟩, []⟩, ⟨0, ⟨(some 24), none, (.pure .id), [(.tmp 6)]⟩, []⟩, ⟨0, ⟨(some 25), none, (.pure (.iaddr 2)), [(.tmp 23), (.tmp 24)]⟩, []⟩, ⟨0, ⟨(some 26), none, (.pure (.faddr 1)), [(.tmp 25)]⟩, []⟩, ⟨0, ⟨(some 27), none, (.load (.load 1 false)), [(.tmp 26)]⟩, []⟩, ⟨0, ⟨(some 28), none, (.pure .len), [(.tmp 27)]⟩, []⟩, ⟨0, ⟨(some 29), none, (.pure (.bin .add .none)), [(.tmp 21), (.tmp 28)]⟩, []⟩, ⟨0, ⟨(some 5), none, (.pure .id), [(.tmp 29)]⟩, []⟩])) (.region [⟨0, ⟨(some 19), none, (.pure .id), [(.tmp 6)]⟩, []⟩, ⟨0, ⟨(some 20), none, (.pure (.bin .add .none)), [(.tmp 19), (.const (.int .i64 1))]⟩, []⟩, ⟨0, ⟨(some 6), none, (.pure .id), [(.tmp 20)]⟩, []⟩])))))) (.seq (.region [⟨0, ⟨(some 30), none, (.pure .id), [(.tmp 5)]⟩, []⟩, ⟨0, ⟨(some 31), none, (.pure .id), [(.tmp 1)]⟩, []⟩, ⟨0, ⟨(some 32), none, (.pure (.bin .gtr .none)), [(.tmp 30), (.tmp 31)]⟩, []⟩, ⟨0, ⟨(some 33), none, (.pure .id), [(.tmp 32)]⟩, []⟩, ⟨0, ⟨(some 34), (some (33, false)), (.pure (.faddr 2)), [(.tmp 2)]⟩, []⟩, ⟨0, ⟨(some 35), (some (33, false)), (.load (.load 1 false)), [(.tmp 34)]⟩, []⟩, ⟨0, ⟨(some 36), (some (33, false)), (.pure .id), [(.tmp 1)]⟩, []⟩, ⟨0, ⟨(some 37), (some (33, false)), (.call F_skolemlaw03_wide), [(.const .nils), (.tmp 35), (.tmp 36)]⟩, []⟩, ⟨0, ⟨(some 38), none, (.pure .pick), [(.tmp 33), (.const (.bool true)), (.tmp 37)]⟩, []⟩, ⟨0, ⟨(some 4), none, (.pure .id), [(.tmp 38)]⟩, []⟩]) .ret))))⟩
theorem c_skolemlaw03_broad : compF Tryz.prog Tryz.f8 = some G_skolemlaw03_broad := by kernel_rfl
theorem gc_skolemlaw03_broad {args : List DV} {σ : GS} {Post : DV → GS → Prop} (h : @exB Tryz.prog ⟨G_skolemlaw03_broad.body⟩ (genv0 args G_skolemlaw03_broad.ntmps) σ ⟨@gretB G_skolemlaw03_broad.results ⟨Post⟩⟩) : GCall Tryz.prog F_skolemlaw03_broad args σ Post := gcall_ofB seatfollows Tryz.func8 (by kernel_rfl) c_skolemlaw03_broad h
noncomputable abbrev G_skolemlaw03_wide : GFun := ⟨45, [(.tmp 6)], (.seq (.region [⟨0, ⟨(some 6), none, (.pure .id), [(.const (.bool false))]⟩, []⟩]) (.seq (.region [⟨0, ⟨(some 10), none, (.pure .id), [(.tmp 0)]⟩, []⟩, ⟨0, ⟨(some 11), none, (.pure .len), [(.tmp 10)]⟩, []⟩, ⟨0, ⟨(some 12), none, (.pure .id), [(.tmp 1)]⟩, []⟩, ⟨0, ⟨(some 13), none, (.pure .len), [(.tmp 12)]⟩, []⟩, ⟨0, ⟨(some 14), none, (.pure (.bin .add .none)), [(.tmp 11), (.tmp 13)]⟩, []⟩, ⟨0, ⟨(some 7), none, (.pure .id), [(.tmp 14)]⟩, []⟩]) (.seq (.seq (.region [⟨0, ⟨(some 8), none, (.pure .id), [(.const (.int .i64 0))]⟩, []⟩]) (.block 0 (.loop (.seq (.seq (.region [⟨0, ⟨(some 15), none, (.pure .id), [(.tmp 8)]⟩, []⟩, ⟨0, ⟨(some 16), none, (.pure .id), [(.tmp 0)]⟩, []⟩, ⟨0, ⟨(some 17), none, (.pure .len), [(.tmp 16)]⟩, []⟩, ⟨0, ⟨(some 18), none, (.pure (.bin .lss .none)), [(.tmp 15), (.tmp 17)]⟩, []⟩]) (.cond (.tmp 18) .skip (.exit 0))) (.seq (.block 1 (.region [⟨0, ⟨(some 21), none, (.pure .id), [(.tmp 7)]⟩, []⟩, ⟨0, ⟨(some 22), none, (.pure .id), [(.tmp 0)]⟩, []⟩, ⟨0, ⟨(some 23), none, (.pure .id), [(.tmp 8)]⟩, []⟩, ⟨0, ⟨(some 24), none, (.pure (.iaddr 2)), [(.tmp 22), (.tmp 23)]⟩, []⟩, ⟨0, ⟨(some 25), none, (.pure (.faddr 1)), [(.tmp 24)]⟩, []⟩, ⟨0, ⟨(some 26), none, (.load (.load 1 false)), [(.tmp 25)]⟩, []⟩, ⟨0, ⟨(some 27), none, (.pure .len), [(.tmp 26)]⟩, []⟩, ⟨0, ⟨(some 28), none, (.pure (.bin .add .none)), [(.tmp 21), (.tmp 27)]⟩, []⟩, ⟨0, ⟨(some 7), none, (.pure .id), [(.tmp 28)]⟩, []⟩])) (.region [⟨0, ⟨(some 19), none, (.pure .id), [(.tmp 8)]⟩, []⟩, ⟨0, ⟨(some 20), none, (.pure (.bin .add .none)), [(.tmp 19), (.const (.int .i64 1))]⟩, []⟩, ⟨0, ⟨(some 8), none, (.pure .id), [(.tmp 20)]⟩, []⟩])))))) (.seq (.seq (.region [⟨0, ⟨(some 9), none, (.pure .id), [(.const (.int .i64 0))]⟩, []⟩]) (.block 2 (.loop (.seq (.seq (.region [⟨0, ⟨(some 29), none, (.pure .id), [(.tmp 9)]⟩, []⟩, ⟨0, ⟨(some 30), none, (.pure .id), [(.tmp 1)]⟩, []⟩, ⟨0, ⟨(some 31), none, (.pure .len), [(.tmp 30)]⟩, []⟩, ⟨0, ⟨(some 32), none, (.pure (.bin .lss .none)), [(.tmp 29), (.tmp 31)]⟩, []⟩]) (.cond (.tmp 32) .skip (.exit 2))) (.seq (.block 3 (.region [⟨0, ⟨(some 35), none, (.pure .id), [(.tmp 7)]⟩, []⟩, ⟨0, ⟨(some 36), none, (.pure .id), [(.tmp 1)]⟩, []⟩, ⟨0, ⟨(some 37), none, (.pure .id), [(.tmp 9)]⟩, []⟩, ⟨0, ⟨(some 38), none, (.pure (.iaddr 1)), [(.tmp 36), (.tmp 37)]⟩, []⟩, ⟨0, ⟨(some 39), none, (.load (.load 1 false)), [(.tmp 38)]⟩, []⟩, ⟨0, ⟨(some 40), none, (.pure .len), [(.tmp 39)]⟩, []⟩, ⟨0, ⟨(some 41), none, (.pure (.bin .add .none)), [(.tmp 35), (.tmp 40)]⟩, []⟩, ⟨0, ⟨(some 7), none, (.pure .id), [(.tmp 41)]⟩, []⟩])) (.region [⟨0, ⟨(some 33), none, (.pure .id), [(.tmp 9)]⟩, []⟩, ⟨0, ⟨(some 34), none, (.pure (.bin .add .none)), [(.tmp 33), (.const (.int .i64 1))]⟩, []⟩, ⟨0, ⟨(some 9), none, (.pure .id), [(.tmp 34)]⟩, []⟩])))))) (.seq (.region [⟨0, ⟨(some 42), none, (.pure .id), [(.tmp 7)]⟩, []⟩, ⟨0, ⟨(some 43), none, (.pure .id), [(.tmp 2)]⟩, []⟩, ⟨0, ⟨(some 44), none, (.pure (.bin .gtr .none)), [(.tmp 42), (.tmp 43)]⟩, []⟩, ⟨0, ⟨(some 6), none, (.pure .id), [(.tmp 44)]⟩, []⟩]) .ret)))))⟩
theorem c_skolemlaw03_wide : compF Tryz.prog Tryz.f7 = some G_skolemlaw03_wide := by kernel_rfl
theorem gc_skolemlaw03_wide {args : List DV} {σ : GS} {Post : DV → GS → Prop} (h : @exB Tryz.prog ⟨G_skolemlaw03_wide.body⟩ (genv0 args G_skolemlaw03_wide.ntmps) σ ⟨@gretB G_skolemlaw03_wide.results ⟨Post⟩⟩) : GCall Tryz.prog F_skolemlaw03_wide args σ Post := gcall_ofB seatfollows Tryz.func7 (by kernel_rfl) c_skolemlaw03_wide h
noncomputable abbrev G_prefix_SameDqbf : GFun := ⟨26, [(.tmp 4)], (.seq (.region [⟨0, ⟨(some 2), none, (.new .box), [(.tmp 0)]⟩, []⟩, ⟨0, ⟨(some 3), none, (.new .box), [(.tmp 1)]⟩, []⟩, ⟨0, ⟨(some 4), none, (.pure .id), [(.const (.bool false))]⟩, []⟩]) (.seq (.region [⟨0, ⟨(some 6), none, (.pure (.faddr 1)), [(.tmp 2)]⟩, []⟩, ⟨0, ⟨(some 7), none, (.load (.load 1 false)), [(.tmp 6)]⟩, []⟩, ⟨0, ⟨(some 8), none, (.pure (.faddr 1)), [(.tmp 3)]⟩, []⟩, ⟨0, ⟨(some 9), none, (.load (.load 1 false)), [(.tmp 8)]⟩, []⟩, ⟨0, ⟨(some 10), none, (.call F_slices_EqualFunc_api_Dep_api_Dep_api_Dep_api_Dep), [(.tmp 7), (.tmp 9), (.const (.func F_prefix_SameDqbf_1 [] []))]⟩, []⟩, ⟨0, ⟨(some 5), none, (.pure .id), [(.tmp 10)]⟩, []⟩]) (.seq (.region [⟨0, ⟨(some 11), none, (.pure .id), [(.tmp 5)]⟩, []⟩, ⟨0, ⟨(some 12), none, (.pure .id), [(.tmp 11)]⟩, []⟩, ⟨0, ⟨(some 13), (some (12, true)), (.pure (.faddr 0)), [(.tmp 2)]⟩, []⟩, ⟨0, ⟨(some 14), (some (12, true)), (.load (.load 1 false)), [(.tmp 13)]⟩, []⟩, ⟨0, ⟨(some 15), (some (12, true)), (.pure (.faddr 0)), [(.tmp 3)]⟩, []⟩, ⟨0, ⟨(some 16), (some (12, true)), (.load (.load 1 false)), [(.tmp 15)]⟩, []⟩, ⟨0, ⟨(some 17), (some (12, true)), (.call F_slices_Equal_int_int), [(.tmp 14), (.tmp 16)]⟩, []⟩, ⟨0, ⟨(some 18), none, (.pure .pick), [(.tmp 12), (.tmp 17), (.const (.bool false))]⟩, []⟩, ⟨0, ⟨(some 19), none, (.pure .id), [(.tmp 18)]⟩, []⟩, ⟨0, ⟨(some 20), (some (19, true)), (.pure (.faddr 2)), [(.tmp 2)]⟩, []⟩, ⟨0, ⟨(some 21), (some (19, true)), (.load (.load 1 false)), [(.tmp 20)]⟩, []⟩, ⟨0, ⟨(some 22), (some (19, true)), (.pure (.faddr 2)), [(.tmp 3)]⟩, []⟩, ⟨0, ⟨(some 23), (some (19, true)), (.load (.load 1 false)), [(.tmp 22)]⟩, []⟩, ⟨0, ⟨(some 24), (some (19, true)), (.call F_slices_EqualFunc_int_int_int_int), [(.tmp 21), (.tmp 23), (.const (.func F_slices_Equal_int_int [] []))]⟩, []⟩, ⟨0, ⟨(some 25), none, (.pure .pick), [(.tmp 19), (.tmp 24), (.const (.bool false))]⟩, []⟩, ⟨0, ⟨(some 4), none, (.pure .id), [(.tmp 25)]⟩, []⟩]) .ret)))⟩
theorem c_prefix_SameDqbf : compF Tryz.prog Tryz.f18 = some G_prefix_SameDqbf := by kernel_rfl
theorem gc_prefix_SameDqbf {args : List DV} {σ : GS} {Post : DV → GS → Prop} (h : @exB Tryz.prog ⟨G_prefix_SameDqbf.body⟩ (genv0 args G_prefix_SameDqbf.ntmps) σ ⟨@gretB G_prefix_SameDqbf.results ⟨Post⟩⟩) : GCall Tryz.prog F_prefix_SameDqbf args σ Post := gcall_ofB seatfollows Tryz.func18 (by kernel_rfl) c_prefix_SameDqbf h
noncomputable abbrev G_slices_EqualFunc_api_Dep_api_Dep_api_Dep_api_Dep : GFun := ⟨32, [(.tmp 6)], (.seq (.region [⟨0, ⟨(some 6), none, (.pure .id), [(.const (.bool false))]⟩, []⟩]) (.seq (.seq (.region [⟨0, ⟨(some 10), none, (.pure .id), [(.tmp 0)]⟩, []⟩, ⟨0, ⟨(some 11), none, (.pure .len), [(.tmp 10)]⟩, []⟩, ⟨0, ⟨(some 12), none, (.pure .id), [(.tmp 1)]⟩, []⟩, ⟨0, ⟨(some 13), none, (.pure .len), [(.tmp 12)]⟩, []⟩, ⟨0, ⟨(some 14), none, (.pure (.bin .neq .none)), [(.tmp 11), (.tmp 13)]⟩, []⟩]) (.cond (.tmp 14) (.seq (.region [⟨0, ⟨(some 6), none, (.pure .id), [(.const (.bool false))]⟩, []⟩]) .ret) .skip)) (.seq (.seq (.region [⟨0, ⟨(some 15), none, (.pure .id), [(.tmp 0)]⟩, []⟩, ⟨0, ⟨(some 16), none, (.pure .len), [(.tmp 15)]⟩, []⟩, ⟨0, ⟨(some 17), none, (.pure .id), [(.const (.int .i64 0))]⟩, []⟩]) (.block 0 (.loop (.seq (.region [⟨0, ⟨(some 18), none, (.pure (.bin .lss .none)), [(.tmp 17), (.tmp 16)]⟩, []⟩]) (.seq (.cond (.tmp 18) .skip (.exit 0)) (.seq (.block 1 (.seq (.region [⟨0, ⟨(some 19), none, (.pure .id), [(.tmp 17)]⟩, []⟩, ⟨0, ⟨(some 20), none, (.pure (.iaddr 2)), [(.tmp 15), (.tmp 17)]⟩, []⟩, ⟨0, ⟨(some 21), none, (.load (.load 2 true)), [(.tmp 20)]⟩, []⟩, ⟨0, ⟨(some 8), none, (.new (.alloc [(.int .i64 0), .nils])), []⟩, []⟩, ⟨0, ⟨(some 7), none, (.pure .id), [(.tmp 19)]⟩, []⟩, ⟨0, ⟨none, none, (.imp (.store 2)), [(.tmp 8), (.tmp 21)]⟩, []⟩]) (.seq (.region [⟨0, ⟨(some 22), none, (.pure .id), [(.tmp 1)]⟩, []⟩, ⟨0, ⟨(some 23), none, (.pure .id), [(.tmp 7)]⟩, []⟩, ⟨0, ⟨(some 24), none, (.pure (.iaddr 2)), [(.tmp 22), (.tmp 23)]⟩, []⟩, ⟨0, ⟨(some 25), none, (.load (.load 2 true)), [(.tmp 24)]⟩, []⟩, ⟨0, ⟨(some 9), none, (.new (.alloc [(.int .i64 0), .nils])), []⟩, []⟩, ⟨0, ⟨none, none, (.imp (.store 2)), [(.tmp 9), (.tmp 25)]⟩, []⟩]) (.seq (.region [⟨0, ⟨(some 26), none, (.pure .id), [(.tmp 2)]⟩, []⟩, ⟨0, ⟨(some 27), none, (.load (.load 2 true)), [(.tmp 8)]⟩, []⟩, ⟨0, ⟨(some 28), none, (.load (.load 2 true)), [(.tmp 9)]⟩, []⟩, ⟨0, ⟨(some 29), none, .callv, [(.tmp 26), (.tmp 27), (.tmp 28)]⟩, []⟩, ⟨0, ⟨(some 30), none, (.pure (.un .not)), [(.tmp 29)]⟩, []⟩]) (.cond (.tmp 30) (.seq (.region [⟨0, ⟨(some 6), none, (.pure .id), [(.const (.bool false))]⟩, []⟩]) .ret) .skip))))) (.region [⟨0, ⟨(some 31), none, (.pure (.bin .add .none)), [(.tmp 17), (.const (.int .i64 1))]⟩, []⟩, ⟨0, ⟨(some 17), none, (.pure .id), [(.tmp 31)]⟩, []⟩]))))))) (.seq (.region [⟨0, ⟨(some 6), none, (.pure .id), [(.const (.bool true))]⟩, []⟩]) .ret))))⟩
theorem c_slices_EqualFunc_api_Dep_api_Dep_api_Dep_api_Dep : compF Tryz.prog Tryz.f55 = some G_slices_EqualFunc_api_Dep_api_Dep_api_Dep_api_Dep := by kernel_rfl
theorem gc_slices_EqualFunc_api_Dep_api_Dep_api_Dep_api_Dep {args : List DV} {σ : GS} {Post : DV → GS → Prop} (h : @exB Tryz.prog ⟨G_slices_EqualFunc_api_Dep_api_Dep_api_Dep_api_Dep.body⟩ (genv0 args G_slices_EqualFunc_api_Dep_api_Dep_api_Dep_api_Dep.ntmps) σ ⟨@gretB G_slices_EqualFunc_api_Dep_api_Dep_api_Dep_api_Dep.results ⟨Post⟩⟩) : GCall Tryz.prog F_slices_EqualFunc_api_Dep_api_Dep_api_Dep_api_Dep args σ Post := gcall_ofB seatfollows Tryz.func55 (by kernel_rfl) c_slices_EqualFunc_api_Dep_api_Dep_api_Dep_api_Dep h
noncomputable abbrev G_prefix_SameDqbf_1 : GFun := ⟨17, [(.tmp 4)], (.seq (.region [⟨0, ⟨(some 2), none, (.new .box), [(.tmp 0)]⟩, []⟩, ⟨0, ⟨(some 3), none, (.new .box), [(.tmp 1)]⟩, []⟩, ⟨0, ⟨(some 4), none, (.pure .id), [(.const (.bool false))]⟩, []⟩]) (.seq (.region [⟨0, ⟨(some 5), none, (.pure (.faddr 0)), [(.tmp 2)]⟩, []⟩, ⟨0, ⟨(some 6), none, (.load (.load 1 false)), [(.tmp 5)]⟩, []⟩, ⟨0, ⟨(some 7), none, (.pure (.faddr 0)), [(.tmp 3)]⟩, []⟩, ⟨0, ⟨(some 8), none, (.load (.load 1 false)), [(.tmp 7)]⟩, []⟩, ⟨0, ⟨(some 9), none, (.pure (.bin .eql .none)), [(.tmp 6), (.tmp 8)]⟩, []⟩, ⟨0, ⟨(some 10), none, (.pure .id), [(.tmp 9)]⟩, []⟩, ⟨0, ⟨(some 11), (some (10, true)), (.pure (.faddr 1)), [(.tmp 2)]⟩, []⟩, ⟨0, ⟨(some 12), (some (10, true)), (.load (.load 1 false)), [(.tmp 11)]⟩, []⟩, ⟨0, ⟨(some 13), (some (10, true)), (.pure (.faddr 1)), [(.tmp 3)]⟩, []⟩, ⟨0, ⟨(some 14), (some (10, true)), (.load (.load 1 false)), [(.tmp 13)]⟩, []⟩, ⟨0, ⟨(some 15), (some (10, true)), (.call F_slices_Equal_int_int), [(.tmp 12), (.tmp 14)]⟩, []⟩, ⟨0, ⟨(some 16), none, (.pure .pick), [(.tmp 10), (.tmp 15), (.const (.bool false))]⟩, []⟩, ⟨0, ⟨(some 4), none, (.pure .id), [(.tmp 16)]⟩, []⟩]) .ret))⟩
theorem c_prefix_SameDqbf_1 : compF Tryz.prog Tryz.f56 = some G_prefix_SameDqbf_1 := by kernel_rfl
theorem gc_prefix_SameDqbf_1 {args : List DV} {σ : GS} {Post : DV → GS → Prop} (h : @exB Tryz.prog ⟨G_prefix_SameDqbf_1.body⟩ (genv0 args G_prefix_SameDqbf_1.ntmps) σ ⟨@gretB G_prefix_SameDqbf_1.results ⟨Post⟩⟩) : GCall Tryz.prog F_prefix_SameDqbf_1 args σ Post := gcall_ofB seatfollows Tryz.func56 (by kernel_rfl) c_prefix_SameDqbf_1 h
noncomputable abbrev G_slices_Equal_int_int : GFun := ⟨26, [(.tmp 4)], (.seq (.region [⟨0, ⟨(some 4), none, (.pure .id), [(.const (.bool false))]⟩, []⟩]) (.seq (.seq (.region [⟨0, ⟨(some 6), none, (.pure .id), [(.tmp 0)]⟩, []⟩, ⟨0, ⟨(some 7), none, (.pure .len), [(.tmp 6)]⟩, []⟩, ⟨0, ⟨(some 8), none, (.pure .id), [(.tmp 1)]⟩, []⟩, ⟨0, ⟨(some 9), none, (.pure .len), [(.tmp 8)]⟩, []⟩, ⟨0, ⟨(some 10), none, (.pure (.bin .neq .none)), [(.tmp 7), (.tmp 9)]⟩, []⟩]) (.cond (.tmp 10) (.seq (.region [⟨0, ⟨(some 4), none, (.pure .id), [(.const (.bool false))]⟩, []⟩]) .ret) .skip)) (.seq (.seq (.region [⟨0, ⟨(some 11), none, (.pure .id), [(.tmp 0)]⟩, []⟩, ⟨0, ⟨(some 12), none, (.pure .len), [(.tmp 11)]⟩, []⟩, ⟨0, ⟨(some 13), none, (.pure .id), [(.const (.int .i64 0))]⟩, []⟩]) (.block 0 (.loop (.seq (.region [⟨0, ⟨(some 14), none, (.pure (.bin .lss .none)), [(.tmp 13), (.tmp 12)]⟩, []⟩]) (.seq (.cond (.tmp 14) .skip (.exit 0)) (.seq (.block 1 (.seq (.region [⟨0, ⟨(some 15), none, (.pure .id), [(.tmp 13)]⟩, []⟩, ⟨0, ⟨(some 5), none, (.pure .id), [(.tmp 15)]⟩, []⟩]) (.seq (.region [⟨0, ⟨(some 16), none, (.pure .id), [(.tmp 0)]⟩, []⟩, ⟨1, ⟨(some 17), none, (.pure .id), [(.tmp 5)]⟩, []⟩, ⟨2, ⟨(some 18), none, (.pure (.iaddr 1)), [(.tmp 16), (.tmp 17)]⟩, []⟩, ⟨3, ⟨(some 19), none, (.load (.load 1 false)), [(.tmp 18)]⟩, []⟩, ⟨4, ⟨(some 20), none, (.pure .id), [(.tmp 1)]⟩, []⟩, ⟨5, ⟨(some 21), none, (.pure .id), [(.tmp 5)]⟩, []⟩, ⟨6, ⟨(some 22), none, (.pure (.iaddr 1)), [(.tmp 20), (.tmp 21)]⟩, []⟩, ⟨7, ⟨(some 23), none, (.load (.load 1 false)), [(.tmp 22)]⟩, []⟩, ⟨8, ⟨(some 24), none, (.pure (.bin .neq .none)), [(.tmp 19), (.tmp 23)]⟩, []⟩]) (.cond (.tmp 24) (.seq (.region [⟨0, ⟨(some 4), none, (.pure .id), [(.const (.bool false))]⟩, []⟩]) .ret) .skip)))) (.region [⟨0, ⟨(some 25), none, (.pure (.bin .add .none)), [(.tmp 13), (.const (.int .i64 1))]⟩, []⟩, ⟨0, ⟨(some 13), none, (.pure .id), [(.tmp 25)]⟩, []⟩]))))))) (.seq (.region [⟨0, ⟨(some 4), none, (.pure .id), [(.const (.bool true))]⟩, []⟩]) .ret))))⟩
theorem c_slices_Equal_int_int : compF Tryz.prog Tryz.f54 = some G_slices_Equal_int_int := by kernel_rfl
theorem gc_slices_Equal_int_int {args : List DV} {σ : GS} {Post : DV → GS → Prop} (h : @exB Tryz.prog ⟨G_slices_Equal_int_int.body⟩ (genv0 args G_slices_Equal_int_int.ntmps) σ ⟨@gretB G_slices_Equal_int_int.results ⟨Post⟩⟩) : GCall Tryz.prog F_slices_Equal_int_int args σ Post := gcall_ofB seatfollows Tryz.func54 (by kernel_rfl) c_slices_Equal_int_int h
noncomputable abbrev G_slices_EqualFunc_int_int_int_int : GFun := ⟨32, [(.tmp 6)], (.seq (.region [⟨0, ⟨(some 6), none, (.pure .id), [(.const (.bool false))]⟩, []⟩]) (.seq (.seq (.region [⟨0, ⟨(some 10), none, (.pure .id), [(.tmp 0)]⟩, []⟩, ⟨0, ⟨(some 11), none, (.pure .len), [(.tmp 10)]⟩, []⟩, ⟨0, ⟨(some 12), none, (.pure .id), [(.tmp 1)]⟩, []⟩, ⟨0, ⟨(some 13), none, (.pure .len), [(.tmp 12)]⟩, []⟩, ⟨0, ⟨(some 14), none, (.pure (.bin .neq .none)), [(.tmp 11), (.tmp 13)]⟩, []⟩]) (.cond (.tmp 14) (.seq (.region [⟨0, ⟨(some 6), none, (.pure .id), [(.const (.bool false))]⟩, []⟩]) .ret) .skip)) (.seq (.seq (.region [⟨0, ⟨(some 15), none, (.pure .id), [(.tmp 0)]⟩, []⟩, ⟨0, ⟨(some 16), none, (.pure .len), [(.tmp 15)]⟩, []⟩, ⟨0, ⟨(some 17), none, (.pure .id), [(.const (.int .i64 0))]⟩, []⟩]) (.block 0 (.loop (.seq (.region [⟨0, ⟨(some 18), none, (.pure (.bin .lss .none)), [(.tmp 17), (.tmp 16)]⟩, []⟩]) (.seq (.cond (.tmp 18) .skip (.exit 0)) (.seq (.block 1 (.seq (.region [⟨0, ⟨(some 19), none, (.pure .id), [(.tmp 17)]⟩, []⟩, ⟨0, ⟨(some 20), none, (.pure (.iaddr 1)), [(.tmp 15), (.tmp 17)]⟩, []⟩, ⟨0, ⟨(some 21), none, (.load (.load 1 false)), [(.tmp 20)]⟩, []⟩, ⟨0, ⟨(some 7), none, (.pure .id), [(.tmp 19)]⟩, []⟩, ⟨0, ⟨(some 8), none, (.pure .id), [(.tmp 21)]⟩, []⟩]) (.seq (.region [⟨0, ⟨(some 22), none, (.pure .id), [(.tmp 1)]⟩, []⟩, ⟨0, ⟨(some 23), none, (.pure .id), [(.tmp 7)]⟩, []⟩, ⟨0, ⟨(some 24), none, (.pure (.iaddr 1)), [(.tmp 22), (.tmp 23)]⟩, []⟩, ⟨0, ⟨(some 25), none, (.load (.load 1 false)), [(.tmp 24)]⟩, []⟩, ⟨0, ⟨(some 9), none, (.pure .id), [(.tmp 25)]⟩, []⟩]) (.seq (.region [⟨0, ⟨(some 26), none, (.pure .id), [(.tmp 2)]⟩, []⟩, ⟨0, ⟨(some 27), none, (.pure .id), [(.tmp 8)]⟩, []⟩, ⟨0, ⟨(some 28), none, (.pure .id), [(.tmp 9)]⟩, []⟩, ⟨0, ⟨(some 29), none, .callv, [(.tmp 26), (.tmp 27), (.tmp 28)]⟩, []⟩, ⟨0, ⟨(some 30), none, (.pure (.un .not)), [(.tmp 29)]⟩, []⟩]) (.cond (.tmp 30) (.seq (.region [⟨0, ⟨(some 6), none, (.pure .id), [(.const (.bool false))]⟩, []⟩]) .ret) .skip))))) (.region [⟨0, ⟨(some 31), none, (.pure (.bin .add .none)), [(.tmp 17), (.const (.int .i64 1))]⟩, []⟩, ⟨0, ⟨(some 17), none, (.pure .id), [(.tmp 31)]⟩, []⟩]))))))) (.seq (.region [⟨0, ⟨(some 6), none, (.pure .id), [(.const (.bool true))]⟩, []⟩]) .ret))))⟩
theorem c_slices_EqualFunc_int_int_int_int : compF Tryz.prog Tryz.f57 = some G_slices_EqualFunc_int_int_int_int := by kernel_rfl
theorem gc_slices_EqualFunc_int_int_int_int {args : List DV} {σ : GS} {Post : DV → GS → Prop} (h : @exB Tryz.prog ⟨G_slices_EqualFunc_int_int_int_int.body⟩ (genv0 args G_slices_EqualFunc_int_int_int_int.ntmps) σ ⟨@gretB G_slices_EqualFunc_int_int_int_int.results ⟨Post⟩⟩) : GCall Tryz.prog F_slices_EqualFunc_int_int_int_int args σ Post := gcall_ofB seatfollows Tryz.func57 (by kernel_rfl) c_slices_EqualFunc_int_int_int_int h
noncomputable abbrev G_skolemref03_Ints : GFun := ⟨26, [(.tmp 4)], (.seq (.region [⟨0, ⟨(some 4), none, (.pure .id), [(.const (.bool false))]⟩, []⟩]) (.seq (.seq (.region [⟨0, ⟨(some 6), none, (.pure .id), [(.tmp 0)]⟩, []⟩, ⟨0, ⟨(some 7), none, (.pure .len), [(.tmp 6)]⟩, []⟩, ⟨0, ⟨(some 8), none, (.pure .id), [(.tmp 1)]⟩, []⟩, ⟨0, ⟨(some 9), none, (.pure .len), [(.tmp 8)]⟩, []⟩, ⟨0, ⟨(some 10), none, (.pure (.bin .neq .none)), [(.tmp 7), (.tmp 9)]⟩, []⟩]) (.cond (.tmp 10) (.seq (.region [⟨0, ⟨(some 4), none, (.pure .id), [(.const (.bool false))]⟩, []⟩]) .ret) .skip)) (.seq (.seq (.region [⟨0, ⟨(some 5), none, (.pure .id), [(.const (.int .i64 0))]⟩, []⟩]) (.block 0 (.loop (.seq (.seq (.region [⟨0, ⟨(some 11), none, (.pure .id), [(.tmp 5)]⟩, []⟩, ⟨0, ⟨(some 12), none, (.pure .id), [(.tmp 0)]⟩, []⟩, ⟨0, ⟨(some 13), none, (.pure .len), [(.tmp 12)]⟩, []⟩, ⟨0, ⟨(some 14), none, (.pure (.bin .lss .none)), [(.tmp 11), (.tmp 13)]⟩, []⟩]) (.cond (.tmp 14) .skip (.exit 0))) (.seq (.block 1 (.seq (.region [⟨0, ⟨(some 17), none, (.pure .id), [(.tmp 0)]⟩, []⟩, ⟨1, ⟨(some 18), none, (.pure .id), [(.tmp 5)]⟩, []⟩, ⟨2, ⟨(some 19), none, (.pure (.iaddr 1)), [(.tmp 17), (.tmp 18)]⟩, []⟩, ⟨3, ⟨(some 20), none, (.load (.load 1 false)), [(.tmp 19)]⟩, []⟩, ⟨4, ⟨(some 21), none, (.pure .id), [(.tmp 1)]⟩, []⟩, ⟨5, ⟨(some 22), none, (.pure .id), [(.tmp 5)]⟩, []⟩, ⟨6, ⟨(some 23), none, (.pure (.iaddr 1)), [(.tmp 21), (.tmp 22)]⟩, []⟩, ⟨7, ⟨(some 24), none, (.load (.load 1 false)), [(.tmp 23)]⟩, []⟩, ⟨8, ⟨(some 25), none, (.pure (.bin .neq .none)), [(.tmp 20), (.tmp 24)]⟩, []⟩]) (.cond (.tmp 25) (.seq (.region [⟨0, ⟨(some 4), none, (.pure .id), [(.const (.bool false))]⟩, []⟩]) .ret) .skip))) (.region [⟨0, ⟨(some 15), none, (.pure .id), [(.tmp 5)]⟩, []⟩, ⟨0, ⟨(some 16), none, (.pure (.bin .add .none)), [(.tmp 15), (.const (.int .i64 1))]⟩, []⟩, ⟨0, ⟨(some 5), none, (.pure .id), [(.tmp 16)]⟩, []⟩])))))) (.seq (.region [⟨0, ⟨(some 4), none, (.pure .id), [(.const (.bool true))]⟩, []⟩]) .ret))))⟩
theorem c_skolemref03_Ints : compF Tryz.prog Tryz.f29 = some G_skolemref03_Ints := by kernel_rfl
theorem gc_skolemref03_Ints {args : List DV} {σ : GS} {Post : DV → GS → Prop} (h : @exB Tryz.prog ⟨G_skolemref03_Ints.body⟩ (genv0 args G_skolemref03_Ints.ntmps) σ ⟨@gretB G_skolemref03_Ints.results ⟨Post⟩⟩) : GCall Tryz.prog F_skolemref03_Ints args σ Post := gcall_ofB seatfollows Tryz.func29 (by kernel_rfl) c_skolemref03_Ints h
end Go.Gh
namespace Go.Gh
open Go.Proofs
abbrev F_prefix_May : Nat := 10
abbrev F_skolemref03_May : Nat := 11
abbrev F_skolemref03_Same : Nat := 17
abbrev F_prefix_count : Nat := 38
abbrev F_skolemref03_Flat : Nat := 39
abbrev F_skolemref03_single : Nat := 40
abbrev F_prefix_places : Nat := 43
abbrev F_skolemref03_Has : Nat := 73
abbrev F_prefix_abs : Nat := 82
abbrev F_prefix_each : Nat := 88
abbrev F_skolemref03_Abs : Nat := 91
abbrev F_slices_IndexFunc_int_int : Nat := 92
abbrev F_prefix_each_1 : Nat := 104
noncomputable abbrev G_skolemref03_Flat : GFun := ⟨19, [(.tmp 2)], (.seq (.region [⟨0, ⟨(some 2), none, (.pure .id), [(.const .nils)]⟩, []⟩]) (.seq (.region [⟨0, ⟨(some 3), none, (.pure .id), [(.const .nils)]⟩, []⟩]) (.seq (.seq (.region [⟨0, ⟨(some 4), none, (.pure .id), [(.const (.int .i64 0))]⟩, []⟩]) (.block 0 (.loop (.seq (.seq (.region [⟨0, ⟨(some 5), none, (.pure .id), [(.tmp 4)]⟩, []⟩, ⟨0, ⟨(some 6), none, (.pure .id), [(.tmp 0)]⟩, []⟩, ⟨0, ⟨(some 7), none, (.pure .len), [(.tmp 6)]⟩, []⟩, ⟨0, ⟨(some 8), none, (.pure (.bin .lss .none)), [(.tmp 5), (.tmp 7)]⟩, []⟩]) (.cond (.tmp 8) .skip (.exit 0))) (.seq (.block 1 (.region [⟨0, ⟨(some 11), none, (.pure .id), [(.tmp 3)]⟩, []⟩, ⟨0, ⟨(some 12), none, (.pure .id), [(.tmp 0)]⟩, []⟩, ⟨0, ⟨(some 13), none, (.pure .id), [(.tmp 4)]⟩, []⟩, ⟨0, ⟨(some 14), none, (.pure (.iaddr 2)), [(.tmp 12), (.tmp 13)]⟩, []⟩, ⟨0, ⟨(some 15), none, (.pure (.faddr 1)), [(.tmp 14)]⟩, []⟩, ⟨0, ⟨(some 16), none, (.load (.load 1 false)), [(.tmp 15)]⟩, []⟩, ⟨0, ⟨(some 17), none, (.imp (.append 1 8)), [(.tmp 11), (.tmp 16)]⟩, []⟩, ⟨0, ⟨(some 3), none, (.pure .id), [(.tmp 17)]⟩, []⟩])) (.region [⟨0, ⟨(some 9), none, (.pure .id), [(.tmp 4)]⟩, []⟩, ⟨0, ⟨(some 10), none, (.pure (.bin .add .none)), [(.tmp 9), (.const (.int .i64 1))]⟩, []⟩, ⟨0, ⟨(some 4), none, (.pure .id), [(.tmp 10)]⟩, []⟩])))))) (.seq (.region [⟨0, ⟨(some 18), none, (.pure .id), [(.tmp 3)]⟩, []⟩, ⟨0, ⟨(some 2), none, (.pure .id), [(.tmp 18)]⟩, []⟩]) .ret))))⟩
theorem c_skolemref03_Flat : compF Tryz.prog Tryz.f39 = some G_skolemref03_Flat := by kernel_rfl
theorem gc_skolemref03_Flat {args : List DV} {σ : GS} {Post : DV → GS → Prop} (h : @exB Tryz.prog ⟨G_skolemref03_Flat.body⟩ (genv0 args G_skolemref03_Flat.ntmps) σ ⟨@gretB G_skolemref03_Flat.results ⟨Post⟩⟩) : GCall Tryz.prog F_skolemref03_Flat args σ Post := gcall_ofB seatfollows Tryz.func39 (by kernel_rfl) c_skolemref03_Flat h
noncomputable abbrev G_skolemref03_Has : GFun := ⟨18, [(.tmp 4)], (.seq (.region [⟨0, ⟨(some 4), none, (.pure .id), [(.const (.bool false))]⟩, []⟩]) (.seq (.seq (.region [⟨0, ⟨(some 5), none, (.pure .id), [(.const (.int .i64 0))]⟩, []⟩]) (.block 0 (.loop (.seq (.seq (.region [⟨0, ⟨(some 6), none, (.pure .id), [(.tmp 5)]⟩, []⟩, ⟨0, ⟨(some 7), none, (.pure .id), [(.tmp 0)]⟩, []⟩, ⟨0, ⟨(some 8), none, (.pure .len), [(.tmp 7)]⟩, []⟩, ⟨0, ⟨(some 9), none, (.pure (.bin .lss .none)), [(.tmp 6), (.tmp 8)]⟩, []⟩]) (.cond (.tmp 9) .skip (.exit 0))) (.seq (.block 1 (.seq (.region [⟨0, ⟨(some 12), none, (.pure .id), [(.tmp 0)]⟩, []⟩, ⟨0, ⟨(some 13), none, (.pure .id), [(.tmp 5)]⟩, []⟩, ⟨0, ⟨(some 14), none, (.pure (.iaddr 1)), [(.tmp 12), (.tmp 13)]⟩, []⟩, ⟨0, ⟨(some 15), none, (.load (.load 1 false)), [(.tmp 14)]⟩, []⟩, ⟨0, ⟨(some 16), none, (.pure .id), [(.tmp 1)]⟩, []⟩, ⟨0, ⟨(some 17), none, (.pure (.bin .eql .none)), [(.tmp 15), (.tmp 16)]⟩, []⟩]) (.cond (.tmp 17) (.seq (.region [⟨0, ⟨(some 4), none, (.pure .id), [(.const (.bool true))]⟩, []⟩]) .ret) .skip))) (.region [⟨0, ⟨(some 10), none, (.pure .id), [(.tmp 5)]⟩, []⟩, ⟨0, ⟨(some 11), none, (.pure (.bin .add .none)), [(.tmp 10), (.const (.int .i64 1))]⟩, []⟩, ⟨0, ⟨(some 5), none, (.pure .id), [(.tmp 11)]⟩, []⟩])))))) (.seq (.region [⟨0, ⟨(some 4), none, (.pure .id), [(.const (.bool false))]⟩, []⟩]) .ret)))⟩
theorem c_skolemref03_Has : compF Tryz.prog Tryz.f73 = some G_skolemref03_Has := by kernel_rfl
theorem gc_skolemref03_Has {args : List DV} {σ : GS} {Post : DV → GS → Prop} (h : @exB Tryz.prog ⟨G_skolemref03_Has.body⟩ (genv0 args G_skolemref03_Has.ntmps) σ ⟨@gretB G_skolemref03_Has.results ⟨Post⟩⟩) : GCall Tryz.prog F_skolemref03_Has args σ Post := gcall_ofB seatfollows Tryz.func73 (by kernel_rfl) c_skolemref03_Has h
noncomputable abbrev G_skolemref03_single : GFun := ⟨32, [(.tmp 2)], (.seq (.region [⟨0, ⟨(some 2), none, (.pure .id), [(.const (.bool false))]⟩, []⟩]) (.seq (.seq (.region [⟨0, ⟨(some 3), none, (.pure .id), [(.const (.int .i64 0))]⟩, []⟩]) (.block 0 (.loop (.seq (.seq (.region [⟨0, ⟨(some 4), none, (.pure .id), [(.tmp 3)]⟩, []⟩, ⟨0, ⟨(some 5), none, (.pure .id), [(.tmp 0)]⟩, []⟩, ⟨0, ⟨(some 6), none, (.pure .len), [(.tmp 5)]⟩, []⟩, ⟨0, ⟨(some 7), none, (.pure (.bin .lss .none)), [(.tmp 4), (.tmp 6)]⟩, []⟩]) (.cond (.tmp 7) .skip (.exit 0))) (.seq (.block 1 (.seq (.region [⟨0, ⟨(some 10), none, (.pure .id), [(.tmp 0)]⟩, []⟩, ⟨1, ⟨(some 11), none, (.pure .id), [(.tmp 3)]⟩, []⟩, ⟨2, ⟨(some 12), none, (.pure (.iaddr 1)), [(.tmp 10), (.tmp 11)]⟩, []⟩, ⟨3, ⟨(some 13), none, (.load (.load 1 false)), [(.tmp 12)]⟩, []⟩, ⟨4, ⟨(some 14), none, (.pure (.bin .lss .none)), [(.tmp 13), (.const (.int .i64 1))]⟩, []⟩, ⟨5, ⟨(some 15), none, (.pure .id), [(.tmp 14)]⟩, []⟩, ⟨6, ⟨(some 16), (some (15, false)), (.pure .id), [(.tmp 0)]⟩, []⟩, ⟨7, ⟨(some 17), (some (15, false)), (.pure .id), [(.tmp 3)]⟩, []⟩, ⟨8, ⟨(some 18), (some (15, false)), (.pure (.iaddr 1)), [(.tmp 16), (.tmp 17)]⟩, []⟩, ⟨9, ⟨(some 19), (some (15, false)), (.load (.load 1 false)), [(.tmp 18)]⟩, []⟩, ⟨10, ⟨(some 20), (some (15, false)), (.pure (.bin .gtr .none)), [(.tmp 19), (.const (.int .i64 65536))]⟩, []⟩, ⟨11, ⟨(some 21), none, (.pure .pick), [(.tmp 15), (.const (.bool true)), (.tmp 20)]⟩, []⟩, ⟨12, ⟨(some 22), none, (.pure .id), [(.tmp 21)]⟩, []⟩, ⟨13, ⟨(some 23), (some (22, false)), (.pure .id), [(.tmp 0)]⟩, []⟩, ⟨14, ⟨(some 24), (some (22, false)), (.pure .id), [(.tmp 3)]⟩, []⟩, ⟨15, ⟨(some 25), (some (22, false)), (.pure (.slice 1 false true false)), [(.tmp 23), (.tmp 24)]⟩, []⟩, ⟨16, ⟨(some 26), (some (22, false)), (.pure .id), [(.tmp 0)]⟩, []⟩, ⟨17, ⟨(some 27), (some (22, false)), (.pure .id), [(.tmp 3)]⟩, []⟩, ⟨18, ⟨(some 28), (some (22, false)), (.pure (.iaddr 1)), [(.tmp 26), (.tmp 27)]⟩, []⟩, ⟨19, ⟨(some 29), (some (22, false)), (.load (.load 1 false)), [(.tmp 28)]⟩, []⟩, ⟨20, ⟨(some 30), (some (22, false)), (.call F_skolemref03_Has), [(.tmp 25), (.tmp 29)]⟩, []⟩, ⟨21, ⟨(some 31), none, (.pure .pick), [(.tmp 22), (.const (.bool true)), (.tmp 30)]⟩, []⟩]) (.cond (.tmp 31) (.seq (.region [⟨0, ⟨(some 2), none, (.pure .id), [(.const (.bool false))]⟩, []⟩]) .ret) .skip))) (.region [⟨0, ⟨(some 8), none, (.pure .id), [(.tmp 3)]⟩, []⟩, ⟨0, ⟨(some 9), none, (.pure (.bin .add .none)), [(.tmp 8), (.const (.int .i64 1))]⟩, []⟩, ⟨0, ⟨(some 3), none, (.pure .id), [(.tmp 9)]⟩, []⟩])))))) (.seq (.region [⟨0, ⟨(some 2), none, (.pure .id), [(.const (.bool true))]⟩, []⟩]) .ret)))⟩
theorem c_skolemref03_single : compF Tryz.prog Tryz.f40 = some G_skolemref03_single := by kernel_rfl
theorem gc_skolemref03_single {args : List DV} {σ : GS} {Post : DV → GS → Prop} (h : @exB Tryz.prog ⟨G_skolemref03_single.body⟩ (genv0 args G_skolemref03_single.ntmps) σ ⟨@gretB G_skolemref03_single.results ⟨Post⟩⟩) : GCall Tryz.prog F_skolemref03_single args σ Post := gcall_ofB seatfollows Tryz.func40 (by kernel_rfl) c_skolemref03_single h
noncomputable abbrev G_skolemref03_May : GFun := ⟨45, [(.tmp 2)], (.seq (.region [⟨0, ⟨(some 2), none, (.pure .id), [(.const (.bool false))]⟩, []⟩]) (.seq (.seq (.region [⟨0, ⟨(some 3), none, (.pure .id), [(.const (.int .i64 0))]⟩, []⟩]) (.block 0 (.loop (.seq (.seq (.region [⟨0, ⟨(some 5), none, (.pure .id), [(.tmp 3)]⟩, []⟩, ⟨0, ⟨(some 6), none, (.pure .id), [(.tmp 0)]⟩, []⟩, ⟨0, ⟨(some 7), none, (.pure .len), [(.tmp 6)]⟩, []⟩, ⟨0, ⟨(some 8), none, (.pure (.bin .lss .none)), [(.tmp 5), (.tmp 7)]⟩, []⟩]) (.cond (.tmp 8) .skip (.exit 0))) (.seq (.block 1 (.seq (.region [⟨0, ⟨(some 11), none, (.pure .id), [(.tmp 0)]⟩, []⟩, ⟨1, ⟨(some 12), none, (.pure .id), [(.tmp 3)]⟩, []⟩, ⟨2, ⟨(some 13), none, (.pure (.iaddr 2)), [(.tmp 11), (.tmp 12)]⟩, []⟩, ⟨3, ⟨(some 14), none, (.pure (.faddr 1)), [(.tmp 13)]⟩, []⟩, ⟨4, ⟨(some 15), none, (.load (.load 1 false)), [(.tmp 14)]⟩, []⟩, ⟨5, ⟨(some 16), none, (.pure .len), [(.tmp 15)]⟩, []⟩, ⟨6, ⟨(some 17), none, (.pure (.bin .eql .none)), [(.tmp 16), (.const (.int .i64 0))]⟩, []⟩, ⟨7, ⟨(some 18), none, (.pure .id), [(.tmp 17)]⟩, []⟩, ⟨8, ⟨(some 19), (some (18, false)), (.pure .id), [(.tmp 3)]⟩, []⟩, ⟨9, ⟨(some 20), (some (18, false)), (.pure (.bin .gtr .none)), [(.tmp 19), (.const (.int .i64 0))]⟩, []⟩, ⟨10, ⟨(some 21), (some (18, false)), (.pure .id), [(.tmp 20)]⟩, []⟩, ⟨11, ⟨(some 22), (some (21, true)), (.pure .id), [(.tmp 0)]⟩, []⟩, ⟨12, ⟨(some 23), (some (21, true)), (.pure .id), [(.tmp 3)]⟩, []⟩, ⟨13, ⟨(some 24), (some (21, true)), (.pure (.bin .sub .none)), [(.tmp 23), (.const (.int .i64 1))]⟩, []⟩, ⟨14, ⟨(some 25), (some (21, true)), (.pure (.iaddr 2)), [(.tmp 22), (.tmp 24)]⟩, []⟩, ⟨15, ⟨(some 26), (some (21, true)), (.pure (.faddr 0)), [(.tmp 25)]⟩, []⟩, ⟨16, ⟨(some 27), (some (21, true)), (.load (.load 1 false)), [(.tmp 26)]⟩, []⟩, ⟨17, ⟨(some 28), (some (21, true)), (.pure .id), [(.tmp 0)]⟩, []⟩, ⟨18, ⟨(some 29), (some (21, true)), (.pure .id), [(.tmp 3)]⟩, []⟩, ⟨19, ⟨(some 30), (some (21, true)), (.pure (.iaddr 2)), [(.tmp 28), (.tmp 29)]⟩, []⟩, ⟨20, ⟨(some 31), (some (21, true)), (.pure (.faddr 0)), [(.tmp 30)]⟩, []⟩, ⟨21, ⟨(some 32), (some (21, true)), (.load (.load 1 false)), [(.tmp 31)]⟩, []⟩, ⟨22, ⟨(some 33), (some (21, true)), (.pure (.bin .eql .bool)), [(.tmp 27), (.tmp 32)]⟩, []⟩, ⟨23, ⟨(some 34), (some (18, false)), (.pure .pick), [(.tmp 21), (.tmp 33), (.const (.bool false))]⟩, []⟩, ⟨24, ⟨(some 35), none, (.pure .pick), [(.tmp 18), (.const (.bool true)), (.tmp 34)]⟩, []⟩]) (.cond (.tmp 35) (.seq (.region [⟨0, ⟨(some 2), none, (.pure .id), [(.const (.bool false))]⟩, []⟩]) .ret) .skip))) (.region [⟨0, ⟨(some 9), none, (.pure .id), [(.tmp 3)]⟩, []⟩, ⟨0, ⟨(some 10), none, (.pure (.bin .add .none)), [(.tmp 9), (.const (.int .i64 1))]⟩, []⟩, ⟨0, ⟨(some 3), none, (.pure .id), [(.tmp 10)]⟩, []⟩])))))) (.seq (.region [⟨0, ⟨(some 36), none, (.pure .id), [(.tmp 0)]⟩, []⟩, ⟨0, ⟨(some 37), none, (.call F_skolemref03_Flat), [(.tmp 36)]⟩, []⟩, ⟨0, ⟨(some 4), none, (.pure .id), [(.tmp 37)]⟩, []⟩]) (.seq (.region [⟨0, ⟨(some 38), none, (.pure .id), [(.tmp 4)]⟩, []⟩, ⟨0, ⟨(some 39), none, (.pure .len), [(.tmp 38)]⟩, []⟩, ⟨0, ⟨(some 40), none, (.pure (.bin .leq .none)), [(.tmp 39), (.const (.int .i64 1024))]⟩, []⟩, ⟨0, ⟨(some 41), none, (.pure .id), [(.tmp 40)]⟩, []⟩, ⟨0, ⟨(some 42), (some (41, true)), (.pure .id), [(.tmp 4)]⟩, []⟩, ⟨0, ⟨(some 43), (some (41, true)), (.call F_skolemref03_single), [(.tmp 42)]⟩, []⟩, ⟨0, ⟨(some 44), none, (.pure .pick), [(.tmp 41), (.tmp 43), (.const (.bool false))]⟩, []⟩, ⟨0, ⟨(some 2), none, (.pure .id), [(.tmp 44)]⟩, []⟩]) .ret))))⟩
theorem c_skolemref03_May : compF Tryz.prog Tryz.f11 = some G_skolemref03_May := by kernel_rfl
theorem gc_skolemref03_May {args : List DV} {σ : GS} {Post : DV → GS → Prop} (h : @exB Tryz.prog ⟨G_skolemref03_May.body⟩ (genv0 args G_skolemref03_May.ntmps) σ ⟨@gretB G_skolemref03_May.results ⟨Post⟩⟩) : GCall Tryz.prog F_skolemref03_May args σ Post := gcall_ofB seatfollows Tryz.func11 (by kernel_rfl) c_skolemref03_May h
noncomputable abbrev G_skolemref03_Abs : GFun := ⟨8, [(.tmp 2)], (.seq (.region [⟨0, ⟨(some 2), none, (.pure .id), [(.const (.int .i64 0))]⟩, []⟩]) (.seq (.seq (.region [⟨0, ⟨(some 3), none, (.pure .id), [(.tmp 0)]⟩, []⟩, ⟨0, ⟨(some 4), none, (.pure (.bin .lss .none)), [(.tmp 3), (.const (.int .i64 0))]⟩, []⟩]) (.cond (.tmp 4) (.seq (.region [⟨0, ⟨(some 5), none, (.pure .id), [(.tmp 0)]⟩, []⟩, ⟨0, ⟨(some 6), none, (.pure (.un .neg)), [(.tmp 5)]⟩, []⟩, ⟨0, ⟨(some 2), none, (.pure .id), [(.tmp 6)]⟩, []⟩]) .ret) .skip)) (.seq (.region [⟨0, ⟨(some 7), none, (.pure .id), [(.tmp 0)]⟩, []⟩, ⟨0, ⟨(some 2), none, (.pure .id), [(.tmp 7)]⟩, []⟩]) .ret)))⟩
theorem c_skolemref03_Abs : compF Tryz.prog Tryz.f91 = some G_skolemref03_Abs := by kernel_rfl
theorem gc_skolemref03_Abs {args : List DV} {σ : GS} {Post : DV → GS → Prop} (h : @exB Tryz.prog ⟨G_skolemref03_Abs.body⟩ (genv0 args G_skolemref03_Abs.ntmps) σ ⟨@gretB G_skolemref03_Abs.results ⟨Post⟩⟩) : GCall Tryz.prog F_skolemref03_Abs args σ Post := gcall_ofB seatfollows Tryz.func91 (by kernel_rfl) c_skolemref03_Abs h
noncomputable abbrev G_skolemref03_Same : GFun := ⟨42, [(.tmp 4)], (.seq (.region [⟨0, ⟨(some 4), none, (.pure .id), [(.const (.bool false))]⟩, []⟩]) (.seq (.seq (.region [⟨0, ⟨(some 6), none, (.pure .id), [(.tmp 0)]⟩, []⟩, ⟨0, ⟨(some 7), none, (.pure .len), [(.tmp 6)]⟩, []⟩, ⟨0, ⟨(some 8), none, (.pure .id), [(.tmp 1)]⟩, []⟩, ⟨0, ⟨(some 9), none, (.pure .len), [(.tmp 8)]⟩, []⟩, ⟨0, ⟨(some 10), none, (.pure (.bin .neq .none)), [(.tmp 7), (.tmp 9)]⟩, []⟩]) (.cond (.tmp 10) (.seq (.region [⟨0, ⟨(some 4), none, (.pure .id), [(.const (.bool false))]⟩, []⟩]) .ret) .skip)) (.seq (.seq (.region [⟨0, ⟨(some 5), none, (.pure .id), [(.const (.int .i64 0))]⟩, []⟩]) (.block 0 (.loop (.seq (.seq (.region [⟨0, ⟨(some 11), none, (.pure .id), [(.tmp 5)]⟩, []⟩, ⟨0, ⟨(some 12), none, (.pure .id), [(.tmp 0)]⟩, []⟩, ⟨0, ⟨(some 13), none, (.pure .len), [(.tmp 12)]⟩, []⟩, ⟨0, ⟨(some 14), none, (.pure (.bin .lss .none)), [(.tmp 11), (.tmp 13)]⟩, []⟩]) (.cond (.tmp 14) .skip (.exit 0))) (.seq (.block 1 (.seq (.region [⟨0, ⟨(some 17), none, (.pure .id), [(.tmp 0)]⟩, []⟩, ⟨1, ⟨(some 18), none, (.pure .id), [(.tmp 5)]⟩, []⟩, ⟨2, ⟨(some 19), none, (.pure (.iaddr 2)), [(.tmp 17), (.tmp 18)]⟩, []⟩, ⟨3, ⟨(some 20), none, (.pure (.faddr 0)), [(.tmp 19)]⟩, []⟩, ⟨4, ⟨(some 21), none, (.load (.load 1 false)), [(.tmp 20)]⟩, []⟩, ⟨5, ⟨(some 22), none, (.pure .id), [(.tmp 1)]⟩, []⟩, ⟨6, ⟨(some 23), none, (.pure .id), [(.tmp 5)]⟩, []⟩, ⟨7, ⟨(some 24), none, (.pure (.iaddr 2)), [(.tmp 22), (.tmp 23)]⟩, []⟩, ⟨8, ⟨(some 25), none, (.pure (.faddr 0)), [(.tmp 24)]⟩, []⟩, ⟨9, ⟨(some 26), none, (.load (.load 1 false)), [(.tmp 25)]⟩, []⟩, ⟨10, ⟨(some 27), none, (.pure (.bin .neq .bool)), [(.tmp 21), (.tmp 26)]⟩, []⟩, ⟨11, ⟨(some 28), none, (.pure .id), [(.tmp 27)]⟩, []⟩, ⟨12, ⟨(some 29), (some (28, false)), (.pure .id), [(.tmp 0)]⟩, []⟩, ⟨13, ⟨(some 30), (some (28, false)), (.pure .id), [(.tmp 5)]⟩, []⟩, ⟨14, ⟨(some 31), (some (28, false)), (.pure (.iaddr 2)), [(.tmp 29), (.tmp 30)]⟩, []⟩, ⟨15, ⟨(some 32), (some (28, false)), (.pure (.faddr 1)), [(.tmp 31)]⟩, []⟩, ⟨16, ⟨(some 33), (some (28, false)), (.load (.load 1 false)), [(.tmp 32)]⟩, []⟩, ⟨17, ⟨(some 34), (some (28, false)), (.pure .id), [(.tmp 1)]⟩, []⟩, ⟨18, ⟨(some 35), (some (28, false)), (.pure .id), [(.tmp 5)]⟩, []⟩, ⟨19, ⟨(some 36), (some (28, false)), (.pure (.iaddr 2)), [(.tmp 34), (.tmp 35)]⟩, []⟩, ⟨20, ⟨(some 37), (some (28, false)), (.pure (.faddr 1)), [(.tmp 36)]⟩, []⟩, ⟨21, ⟨(some 38), (some (28, false)), (.load (.load 1 false)), [(.tmp 37)]⟩, []⟩, ⟨22, ⟨(some 39), (some (28, false)), (.call F_skolemref03_Ints), [(.tmp 33), (.tmp 38)]⟩, []⟩, ⟨23, ⟨(some 40), (some (28, false)), (.pure (.un .not)), [(.tmp 39)]⟩, []⟩, ⟨24, ⟨(some 41), none, (.pure .pick), [(.tmp 28), (.const (.bool true)), (.tmp 40)]⟩, []⟩]) (.cond (.tmp 41) (.seq (.region [⟨0, ⟨(some 4), none, (.pure .id), [(.const (.bool false))]⟩, []⟩]) .ret) .skip))) (.region [⟨0, ⟨(some 15), none, (.pure .id), [(.tmp 5)]⟩, []⟩, ⟨0, ⟨(some 16), none, (.pure (.bin .add .none)), [(.tmp 15), (.const (.int .i64 1))]⟩, []⟩, ⟨0, ⟨(some 5), none, (.pure .id), [(.tmp 16)]⟩, []⟩])))))) (.seq (.region [⟨0, ⟨(some 4), none, (.pure .id), [(.const (.bool true))]⟩, []⟩]) .ret))))⟩
theorem c_skolemref03_Same : compF Tryz.prog Tryz.f17 = some G_skolemref03_Same := by kernel_rfl
theorem gc_skolemref03_Same {args : List DV} {σ : GS} {Post : DV → GS → Prop} (h : @exB Tryz.prog ⟨G_skolemref03_Same.body⟩ (genv0 args G_skolemref03_Same.ntmps) σ ⟨@gretB G_skolemref03_Same.results ⟨Post⟩⟩) : GCall Tryz.prog F_skolemref03_Same args σ Post := gcall_ofB seatfollows Tryz.func17 (by kernel_rfl) c_skolemref03_Same h
noncomputable abbrev G_prefix_each : GFun := ⟨4, [(.tmp 2)], (.seq (.region [⟨0, ⟨(some 1), none, (.new .box), [(.tmp 0)]⟩, []⟩, ⟨0, ⟨(some 2), none, (.pure .id), [(.const .nilf)]⟩, []⟩]) (.seq (.region [⟨0, ⟨(some 3), none, (.pure (.mkfunc F_prefix_each_1 0)), [(.tmp 1)]⟩, []⟩, ⟨0, ⟨(some 2), none, (.pure .id), [(.tmp 3)]⟩, []⟩]) .ret))⟩
theorem c_prefix_each : compF Tryz.prog Tryz.f88 = some G_prefix_each := by kernel_rfl
theorem gc_prefix_each {args : List DV} {σ : GS} {Post : DV → GS → Prop} (h : @exB Tryz.prog ⟨G_prefix_each.body⟩ (genv0 args G_prefix_each.ntmps) σ ⟨@gretB G_prefix_each.results ⟨Post⟩⟩) : GCall Tryz.prog F_prefix_each args σ Post := gcall_ofB seatfollows Tryz.func88 (by kernel_rfl) c_prefix_each h
noncomputable abbrev G_prefix_each_1 : GFun := ⟨28, [], (.seq (.region [⟨0, ⟨(some 7), none, (.load (.load 1 false)), [(.tmp 1)]⟩, []⟩, ⟨0, ⟨(some 8), none, (.pure .len), [(.tmp 7)]⟩, []⟩, ⟨0, ⟨(some 9), none, (.pure .id), [(.const (.int .i64 0))]⟩, []⟩]) (.block 0 (.loop (.seq (.region [⟨0, ⟨(some 10), none, (.pure (.bin .lss .none)), [(.tmp 9), (.tmp 8)]⟩, []⟩]) (.seq (.cond (.tmp 10) .skip (.exit 0)) (.seq (.block 1 (.seq (.region [⟨0, ⟨(some 11), none, (.pure .id), [(.tmp 9)]⟩, []⟩, ⟨0, ⟨(some 12), none, (.pure (.iaddr 2)), [(.tmp 7), (.tmp 9)]⟩, []⟩, ⟨0, ⟨(some 13), none, (.load (.load 2 true)), [(.tmp 12)]⟩, []⟩, ⟨0, ⟨(some 4), none, (.new (.alloc [(.bool false), .nils])), []⟩, []⟩, ⟨0, ⟨(some 3), none, (.pure .id), [(.tmp 11)]⟩, []⟩, ⟨0, ⟨none, none, (.imp (.store 2)), [(.tmp 4), (.tmp 13)]⟩, []⟩]) (.seq (.region [⟨0, ⟨(some 14), none, (.pure (.faddr 1)), [(.tmp 4)]⟩, []⟩, ⟨0, ⟨(some 15), none, (.load (.load 1 false)), [(.tmp 14)]⟩, []⟩, ⟨0, ⟨(some 16), none, (.pure .len), [(.tmp 15)]⟩, []⟩, ⟨0, ⟨(some 17), none, (.pure .id), [(.const (.int .i64 0))]⟩, []⟩]) (.block 2 (.loop (.seq (.region [⟨0, ⟨(some 18), none, (.pure (.bin .lss .none)), [(.tmp 17), (.tmp 16)]⟩, []⟩]) (.seq (.cond (.tmp 18) .skip (.exit 2)) (.seq (.block 3 (.seq (.region [⟨0, ⟨(some 19), none, (.pure (.iaddr 1)), [(.tmp 15), (.tmp 17)]⟩, []⟩, ⟨0, ⟨(some 20), none, (.load (.load 1 false)), [(.tmp 19)]⟩, []⟩, ⟨0, ⟨(some 6), none, (.pure .id), [(.tmp 20)]⟩, []⟩]) (.seq (.region [⟨0, ⟨(some 21), none, (.pure .id), [(.tmp 0)]⟩, []⟩, ⟨0, ⟨(some 22), none, (.pure .id), [(.tmp 3)]⟩, []⟩, ⟨0, ⟨(some 23), none, (.pure .id), [(.tmp 6)]⟩, []⟩, ⟨0, ⟨(some 24), none, .callv, [(.tmp 21), (.tmp 22), (.tmp 23)]⟩, []⟩, ⟨0, ⟨(some 25), none, (.pure (.un .not)), [(.tmp 24)]⟩, []⟩]) (.cond (.tmp 25) .ret .skip)))) (.region [⟨0, ⟨(some 26), none, (.pure (.bin .add .none)), [(.tmp 17), (.const (.int .i64 1))]⟩, []⟩, ⟨0, ⟨(some 17), none, (.pure .id), [(.tmp 26)]⟩, []⟩]))))))))) (.region [⟨0, ⟨(some 27), none, (.pure (.bin .add .none)), [(.tmp 9), (.const (.int .i64 1))]⟩, []⟩, ⟨0, ⟨(some 9), none, (.pure .id), [(.tmp 27)]⟩, []⟩])))))))⟩
theorem c_prefix_each_1 : compF Tryz.prog Tryz.f104 = some G_prefix_each_1 := by kernel_rfl
theorem gc_prefix_each_1 {args : List DV} {σ : GS} {Post : DV → GS → Prop} (h : @exB Tryz.prog ⟨G_prefix_each_1.body⟩ (genv0 args G_prefix_each_1.ntmps) σ ⟨@gretB G_prefix_each_1.results ⟨Post⟩⟩) : GCall Tryz.prog F_prefix_each_1 args σ Post := gcall_ofB seatfollows Tryz.func104 (by kernel_rfl) c_prefix_each_1 h
noncomputable abbrev G_prefix_count : GFun := ⟨27, [(.cell 2 1 false), (.cell 3 1 false)], (.seq (.region [⟨0, ⟨(some 2), none, (.new (.alloc [(.int .i64 0)])), []⟩, []⟩, ⟨0, ⟨(some 3), none, (.new (.alloc [(.bool false)])), []⟩, []⟩]) (.seq (.region [⟨0, ⟨(some 7), none, (.new .mmap), []⟩, []⟩, ⟨0, ⟨(some 4), none, (.new (.alloc [.nilmap])), []⟩, []⟩, ⟨0, ⟨none, none, (.imp (.store 1)), [(.tmp 4), (.tmp 7)]⟩, []⟩]) (.seq (.seq (.region [⟨0, ⟨(some 8), none, (.pure .id), [(.tmp 0)]⟩, []⟩, ⟨0, ⟨(some 9), none, (.call F_prefix_each), [(.tmp 8)]⟩, []⟩]) (.block 0 (.rangeF (.tmp 9) [10, 11] (rngA Tryz.f38 0) (rngB Tryz.f38 0)))) (.seq (.region [⟨0, ⟨(some 25), none, (.load (.load 1 false)), [(.tmp 4)]⟩, []⟩, ⟨0, ⟨(some 26), none, (.load .mlen), [(.tmp 25)]⟩, []⟩, ⟨0, ⟨none, none, (.imp (.store 1)), [(.tmp 2), (.tmp 26)]⟩, []⟩, ⟨0, ⟨none, none, (.imp (.store 1)), [(.tmp 3), (.const (.bool true))]⟩, []⟩]) .ret))))⟩
theorem c_prefix_count : compF Tryz.prog Tryz.f38 = some G_prefix_count := by kernel_rfl
theorem gc_prefix_count {args : List DV} {σ : GS} {Post : DV → GS → Prop} (h : @exB Tryz.prog ⟨G_prefix_count.body⟩ (genv0 args G_prefix_count.ntmps) σ ⟨@gretB G_prefix_count.results ⟨Post⟩⟩) : GCall Tryz.prog F_prefix_count args σ Post := gcall_ofB seatfollows Tryz.func38 (by kernel_rfl) c_prefix_count h
noncomputable abbrev GA_prefix_count_0 : GCode := (.region [⟨0, ⟨(some 6), none, (.pure .id), [(.tmp 11)]⟩, []⟩])
theorem ca_prefix_count_0 : comp Tryz.prog (rngA Tryz.f38 0) = some GA_prefix_count_0 := by kernel_rfl
noncomputable abbrev GB_prefix_count_0 : GCode := (.block 1 (.seq (.seq (.region [⟨0, ⟨(some 12), none, (.pure .id), [(.tmp 6)]⟩, []⟩, ⟨0, ⟨(some 13), none, (.pure (.bin .lss .none)), [(.tmp 12), (.const (.int .i64 1))]⟩, []⟩, ⟨0, ⟨(some 14), none, (.pure .id), [(.tmp 13)]⟩, []⟩, ⟨0, ⟨(some 15), (some (14, false)), (.pure .id), [(.tmp 6)]⟩, []⟩, ⟨0, ⟨(some 16), (some (14, false)), (.pure (.bin .gtr .none)), [(.tmp 15), (.const (.int .i64 65536))]⟩, []⟩, ⟨0, ⟨(some 17), none, (.pure .pick), [(.tmp 14), (.const (.bool true)), (.tmp 16)]⟩, []⟩, ⟨0, ⟨(some 18), none, (.pure .id), [(.tmp 17)]⟩, []⟩, ⟨0, ⟨(some 19), (some (18, false)), (.load (.load 1 false)), [(.tmp 4)]⟩, []⟩, ⟨0, ⟨(some 20), (some (18, false)), (.pure .id), [(.tmp 6)]⟩, []⟩, ⟨0, ⟨(some 21), (some (18, false)), (.load (.lookup (.int .i64) (.bool false) false)), [(.tmp 19), (.tmp 20)]⟩, []⟩, ⟨0, ⟨(some 22), none, (.pure .pick), [(.tmp 18), (.const (.bool true)), (.tmp 21)]⟩, []⟩]) (.cond (.tmp 22) (.seq (.region [⟨0, ⟨none, none, (.imp (.store 1)), [(.tmp 2), (.const (.int .i64 0))]⟩, []⟩, ⟨0, ⟨none, none, (.imp (.store 1)), [(.tmp 3), (.const (.bool false))]⟩, []⟩]) .ret) .skip)) (.region [⟨0, ⟨(some 23), none, (.load (.load 1 false)), [(.tmp 4)]⟩, []⟩, ⟨0, ⟨(some 24), none, (.pure .id), [(.tmp 6)]⟩, []⟩, ⟨0, ⟨none, none, (.imp (.mset (.int .i64))), [(.tmp 23), (.tmp 24), (.const (.bool true))]⟩, []⟩])))
theorem cb_prefix_count_0 : comp Tryz.prog (rngB Tryz.f38 0) = some GB_prefix_count_0 := by kernel_rfl
noncomputable abbrev G_prefix_May : GFun := ⟨44, [(.tmp 2)], (.seq (.region [⟨0, ⟨(some 2), none, (.pure .id), [(.const (.bool false))]⟩, []⟩]) (.seq (.seq (.region [⟨0, ⟨(some 7), none, (.pure .id), [(.tmp 0)]⟩, []⟩, ⟨0, ⟨(some 8), none, (.pure .len), [(.tmp 7)]⟩, []⟩, ⟨0, ⟨(some 9), none, (.pure .id), [(.const (.int .i64 0))]⟩, []⟩]) (.block 0 (.loop (.seq (.region [⟨0, ⟨(some 10), none, (.pure (.bin .lss .none)), [(.tmp 9), (.tmp 8)]⟩, []⟩]) (.seq (.cond (.tmp 10) .skip (.exit 0)) (.seq (.block 1 (.seq (.region [⟨0, ⟨(some 11), none, (.pure .id), [(.tmp 9)]⟩, []⟩, ⟨0, ⟨(some 12), none, (.pure (.iaddr 2)), [(.tmp 7), (.tmp 9)]⟩, []⟩, ⟨0, ⟨(some 13), none, (.load (.load 2 true)), [(.tmp 12)]⟩, []⟩, ⟨0, ⟨(some 4), none, (.new (.alloc [(.bool false), .nils])), []⟩, []⟩, ⟨0, ⟨(some 3), none, (.pure .id), [(.tmp 11)]⟩, []⟩, ⟨0, ⟨none, none, (.imp (.store 2)), [(.tmp 4), (.tmp 13)]⟩, []⟩]) (.seq (.region [⟨0, ⟨(some 14), none, (.pure (.faddr 1)), [(.tmp 4)]⟩, []⟩, ⟨1, ⟨(some 15), none, (.load (.load 1 false)), [(.tmp 14)]⟩, []⟩, ⟨2, ⟨(some 16), none, (.pure .len), [(.tmp 15)]⟩, []⟩, ⟨3, ⟨(some 17), none, (.pure (.bin .eql .none)), [(.tmp 16), (.const (.int .i64 0))]⟩, []⟩, ⟨4, ⟨(some 18), none, (.pure .id), [(.tmp 17)]⟩, []⟩, ⟨5, ⟨(some 19), (some (18, false)), (.pure .id), [(.tmp 3)]⟩, []⟩, ⟨6, ⟨(some 20), (some (18, false)), (.pure (.bin .gtr .none)), [(.tmp 19), (.const (.int .i64 0))]⟩, []⟩, ⟨7, ⟨(some 21), (some (18, false)), (.pure .id), [(.tmp 20)]⟩, []⟩, ⟨8, ⟨(some 22), (some (21, true)), (.pure .id), [(.tmp 0)]⟩, []⟩, ⟨9, ⟨(some 23), (some (21, true)), (.pure .id), [(.tmp 3)]⟩, []⟩, ⟨10, ⟨(some 24), (some (21, true)), (.pure (.bin .sub .none)), [(.tmp 23), (.const (.int .i64 1))]⟩, []⟩, ⟨11, ⟨(some 25), (some (21, true)), (.pure (.iaddr 2)), [(.tmp 22), (.tmp 24)]⟩, []⟩, ⟨12, ⟨(some 26), (some (21, true)), (.pure (.faddr 0)), [(.tmp 25)]⟩, []⟩, ⟨13, ⟨(some 27), (some (21, true)), (.load (.load 1 false)), [(.tmp 26)]⟩, []⟩, ⟨14, ⟨(some 28), (some (21, true)), (.pure (.faddr 0)), [(.tmp 4)]⟩, []⟩, ⟨15, ⟨(some 29), (some (21, true)), (.load (.load 1 false)), [(.tmp 28)]⟩, []⟩, ⟨16, ⟨(some 30), (some (21, true)), (.pure (.bin .eql .bool)), [(.tmp 27), (.tmp 29)]⟩, []⟩, ⟨17, ⟨(some 31), (some (18, false)), (.pure .pick), [(.tmp 21), (.tmp 30), (.const (.bool false))]⟩, []⟩, ⟨18, ⟨(some 32), none, (.pure .pick), [(.tmp 18), (.const (.bool true)), (.tmp 31)]⟩, []⟩]) (.cond (.tmp 32) (.seq (.region [⟨0, ⟨(some 2), none, (.pure .id), [(.const (.bool false))]⟩, []⟩]) .ret) .skip)))) (.region [⟨0, ⟨(some 33), none, (.pure (.bin .add .none)), [(.tmp 9), (.const (.int .i64 1))]⟩, []⟩, ⟨0, ⟨(some 9), none, (.pure .id), [(.tmp 33)]⟩, []⟩]))))))) (.seq (.region [⟨0, ⟨(some 35), none, (.pure .id), [(.tmp 0)]⟩, []⟩, ⟨0, ⟨(some 36), none, (.call F_prefix_count), [(.tmp 35)]⟩, []⟩, ⟨0, ⟨(some 34), none, (.pure .id), [(.tmp 36)]⟩, []⟩, ⟨0, ⟨(some 37), none, (.pure (.extract 0)), [(.tmp 34)]⟩, []⟩, ⟨0, ⟨(some 38), none, (.pure (.extract 1)), [(.tmp 34)]⟩, []⟩, ⟨0, ⟨(some 5), none, (.pure .id), [(.tmp 37)]⟩, []⟩, ⟨0, ⟨(some 6), none, (.pure .id), [(.tmp 38)]⟩, []⟩]) (.seq (.region [⟨0, ⟨(some 39), none, (.pure .id), [(.tmp 6)]⟩, []⟩, ⟨0, ⟨(some 40), none, (.pure .id), [(.tmp 39)]⟩, []⟩, ⟨0, ⟨(some 41), (some (40, true)), (.pure .id), [(.tmp 5)]⟩, []⟩, ⟨0, ⟨(some 42), (some (40, true)), (.pure (.bin .leq .none)), [(.tmp 41), (.const (.int .i64 1024))]⟩, []⟩, ⟨0, ⟨(some 43), none, (.pure .pick), [(.tmp 40), (.tmp 42), (.const (.bool false))]⟩, []⟩, ⟨0, ⟨(some 2), none, (.pure .id), [(.tmp 43)]⟩, []⟩]) .ret))))⟩
theorem c_prefix_May : compF Tryz.prog Tryz.f10 = some G_prefix_May := by kernel_rfl
theorem gc_prefix_May {args : List DV} {σ : GS} {Post : DV → GS → Prop} (h : @exB Tryz.prog ⟨G_prefix_May.body⟩ (genv0 args G_prefix_May.ntmps) σ ⟨@gretB G_prefix_May.results ⟨Post⟩⟩) : GCall Tryz.prog F_prefix_May args σ Post := gcall_ofB seatfollows Tryz.func10 (by kernel_rfl) c_prefix_May h
noncomputable abbrev G_prefix_places : GFun := ⟨31, [(.tmp 2)], (.seq (.region [⟨0, ⟨(some 1), none, (.new .box), [(.tmp 0)]⟩, []⟩, ⟨0, ⟨(some 2), none, (.pure .id), [(.const .nilmap)]⟩, []⟩]) (.seq (.region [⟨0, ⟨(some 8), none, (.new .mmap), []⟩, []⟩, ⟨0, ⟨(some 3), none, (.new (.alloc [.nilmap])), []⟩, []⟩, ⟨0, ⟨none, none, (.imp (.store 1)), [(.tmp 3), (.tmp 8)]⟩, []⟩]) (.seq (.seq (.region [⟨0, ⟨(some 9), none, (.load (.load 1 false)), [(.tmp 1)]⟩, []⟩, ⟨0, ⟨(some 10), none, (.call F_prefix_each), [(.tmp 9)]⟩, []⟩]) (.block 0 (.rangeF (.tmp 10) [11, 12] (rngA Tryz.f43 0) (rngB Tryz.f43 0)))) (.seq (.region [⟨0, ⟨(some 30), none, (.load (.load 1 false)), [(.tmp 3)]⟩, []⟩, ⟨0, ⟨(some 2), none, (.pure .id), [(.tmp 30)]⟩, []⟩]) .ret))))⟩
theorem c_prefix_places : compF Tryz.prog Tryz.f43 = some G_prefix_places := by kernel_rfl
theorem gc_prefix_places {args : List DV} {σ : GS} {Post : DV → GS → Prop} (h : @exB Tryz.prog ⟨G_prefix_places.body⟩ (genv0 args G_prefix_places.ntmps) σ ⟨@gretB G_prefix_places.results ⟨Post⟩⟩) : GCall Tryz.prog F_prefix_places args σ Post := gcall_ofB seatfollows Tryz.func43 (by kernel_rfl) c_prefix_places h
noncomputable abbrev GA_prefix_places_0 : GCode := (.seq (.region [⟨0, ⟨(some 4), none, (.pure .id), [(.tmp 11)]⟩, []⟩]) (.region [⟨0, ⟨(some 5), none, (.pure .id), [(.tmp 12)]⟩, []⟩]))
theorem ca_prefix_places_0 : comp Tryz.prog (rngA Tryz.f43 0) = some GA_prefix_places_0 := by kernel_rfl
noncomputable abbrev GB_prefix_places_0 : GCode := (.block 1 (.seq (.region [⟨0, ⟨(some 14), none, (.load (.load 1 false)), [(.tmp 3)]⟩, []⟩, ⟨0, ⟨(some 15), none, (.pure .id), [(.tmp 5)]⟩, []⟩, ⟨0, ⟨(some 16), none, (.load (.lookup (.int .i64) (.agg [(.int .i64 0), (.bool false)]) true)), [(.tmp 14), (.tmp 15)]⟩, []⟩, ⟨0, ⟨(some 13), none, (.pure .id), [(.tmp 16)]⟩, []⟩, ⟨0, ⟨(some 17), none, (.pure (.extract 0)), [(.tmp 13)]⟩, []⟩, ⟨0, ⟨(some 18), none, (.pure (.extract 1)), [(.tmp 13)]⟩, []⟩, ⟨0, ⟨(some 6), none, (.new (.alloc [(.int .i64 0), (.bool false)])), []⟩, []⟩, ⟨0, ⟨none, none, (.imp (.store 2)), [(.tmp 6), (.tmp 17)]⟩, []⟩, ⟨0, ⟨(some 7), none, (.pure .id), [(.tmp 18)]⟩, []⟩]) (.seq (.region [⟨0, ⟨(some 19), none, (.pure .id), [(.tmp 7)]⟩, []⟩, ⟨0, ⟨(some 20), none, (.pure (.un .not)), [(.tmp 19)]⟩, []⟩]) (.cond (.tmp 20) (.region [⟨0, ⟨(some 21), none, (.load (.load 1 false)), [(.tmp 3)]⟩, []⟩, ⟨1, ⟨(some 22), none, (.pure .id), [(.tmp 5)]⟩, []⟩, ⟨2, ⟨(some 23), none, (.pure .id), [(.tmp 4)]⟩, []⟩, ⟨3, ⟨(some 24), none, (.load (.load 1 false)), [(.tmp 1)]⟩, []⟩, ⟨4, ⟨(some 25), none, (.pure .id), [(.tmp 4)]⟩, []⟩, ⟨5, ⟨(some 26), none, (.pure (.iaddr 2)), [(.tmp 24), (.tmp 25)]⟩, []⟩, ⟨6, ⟨(some 27), none, (.pure (.faddr 0)), [(.tmp 26)]⟩, []⟩, ⟨7, ⟨(some 28), none, (.load (.load 1 false)), [(.tmp 27)]⟩, []⟩, ⟨8, ⟨(some 29), none, (.pure (.build [(.int .i64 0), (.bool false)] [(0, 1), (1, 1)])), [(.tmp 23), (.tmp 28)]⟩, []⟩, ⟨9, ⟨none, none, (.imp (.mset (.int .i64))), [(.tmp 21), (.tmp 22), (.tmp 29)]⟩, []⟩]) .skip))))
theorem cb_prefix_places_0 : comp Tryz.prog (rngB Tryz.f43 0) = some GB_prefix_places_0 := by kernel_rfl
noncomputable abbrev G_prefix_abs : GFun := ⟨7, [(.tmp 2)], (.seq (.region [⟨0, ⟨(some 2), none, (.pure .id), [(.const (.int .i64 0))]⟩, []⟩]) (.seq (.region [⟨0, ⟨(some 3), none, (.pure .id), [(.tmp 0)]⟩, []⟩, ⟨0, ⟨(some 4), none, (.pure .id), [(.tmp 0)]⟩, []⟩, ⟨0, ⟨(some 5), none, (.pure (.un .neg)), [(.tmp 4)]⟩, []⟩, ⟨0, ⟨(some 6), none, (.pure .mx), [(.tmp 3), (.tmp 5)]⟩, []⟩, ⟨0, ⟨(some 2), none, (.pure .id), [(.tmp 6)]⟩, []⟩]) .ret))⟩
theorem c_prefix_abs : compF Tryz.prog Tryz.f82 = some G_prefix_abs := by kernel_rfl
theorem gc_prefix_abs {args : List DV} {σ : GS} {Post : DV → GS → Prop} (h : @exB Tryz.prog ⟨G_prefix_abs.body⟩ (genv0 args G_prefix_abs.ntmps) σ ⟨@gretB G_prefix_abs.results ⟨Post⟩⟩) : GCall Tryz.prog F_prefix_abs args σ Post := gcall_ofB seatfollows Tryz.func82 (by kernel_rfl) c_prefix_abs h
noncomputable abbrev G_slices_IndexFunc_int_int : GFun := ⟨19, [(.tmp 4)], (.seq (.region [⟨0, ⟨(some 4), none, (.pure .id), [(.const (.int .i64 0))]⟩, []⟩]) (.seq (.seq (.region [⟨0, ⟨(some 6), none, (.pure .id), [(.tmp 0)]⟩, []⟩, ⟨0, ⟨(some 7), none, (.pure .len), [(.tmp 6)]⟩, []⟩, ⟨0, ⟨(some 8), none, (.pure .id), [(.const (.int .i64 0))]⟩, []⟩]) (.block 0 (.loop (.seq (.region [⟨0, ⟨(some 9), none, (.pure (.bin .lss .none)), [(.tmp 8), (.tmp 7)]⟩, []⟩]) (.seq (.cond (.tmp 9) .skip (.exit 0)) (.seq (.block 1 (.seq (.region [⟨0, ⟨(some 10), none, (.pure .id), [(.tmp 8)]⟩, []⟩, ⟨0, ⟨(some 5), none, (.pure .id), [(.tmp 10)]⟩, []⟩]) (.seq (.region [⟨0, ⟨(some 11), none, (.pure .id), [(.tmp 1)]⟩, []⟩, ⟨0, ⟨(some 12), none, (.pure .id), [(.tmp 0)]⟩, []⟩, ⟨0, ⟨(some 13), none, (.pure .id), [(.tmp 5)]⟩, []⟩, ⟨0, ⟨(some 14), none, (.pure (.iaddr 1)), [(.tmp 12), (.tmp 13)]⟩, []⟩, ⟨0, ⟨(some 15), none, (.load (.load 1 false)), [(.tmp 14)]⟩, []⟩, ⟨0, ⟨(some 16), none, .callv, [(.tmp 11), (.tmp 15)]⟩, []⟩]) (.cond (.tmp 16) (.seq (.region [⟨0, ⟨(some 17), none, (.pure .id), [(.tmp 5)]⟩, []⟩, ⟨0, ⟨(some 4), none, (.pure .id), [(.tmp 17)]⟩, []⟩]) .ret) .skip)))) (.region [⟨0, ⟨(some 18), none, (.pure (.bin .add .none)), [(.tmp 8), (.const (.int .i64 1))]⟩, []⟩, ⟨0, ⟨(some 8), none, (.pure .id), [(.tmp 18)]⟩, []⟩]))))))) (.seq (.region [⟨0, ⟨(some 4), none, (.pure .id), [(.const (.int .i64 (-1)))]⟩, []⟩]) .ret)))⟩
theorem c_slices_IndexFunc_int_int : compF Tryz.prog Tryz.f92 = some G_slices_IndexFunc_int_int := by kernel_rfl
theorem gc_slices_IndexFunc_int_int {args : List DV} {σ : GS} {Post : DV → GS → Prop} (h : @exB Tryz.prog ⟨G_slices_IndexFunc_int_int.body⟩ (genv0 args G_slices_IndexFunc_int_int.ntmps) σ ⟨@gretB G_slices_IndexFunc_int_int.results ⟨Post⟩⟩) : GCall Tryz.prog F_slices_IndexFunc_int_int args σ Post := gcall_ofB seatfollows Tryz.func92 (by kernel_rfl) c_slices_IndexFunc_int_int h
end Go.Gh
namespace Go.Gh
open Go.Proofs
abbrev F_prefix_cnf : Nat := 41
abbrev F_skolemref03_Cnf : Nat := 44
abbrev F_skolemref03_Normal : Nat := 90
noncomputable abbrev G_skolemref03_Cnf : GFun := ⟨31, [(.tmp 2)], (.seq (.region [⟨0, ⟨(some 2), none, (.pure .id), [(.const (.bool false))]⟩, []⟩]) (.seq (.region [⟨0, ⟨(some 3), none, (.pure .id), [(.const (.int .i64 0))]⟩, []⟩]) (.seq (.seq (.region [⟨0, ⟨(some 4), none, (.pure .id), [(.const (.int .i64 0))]⟩, []⟩]) (.block 0 (.loop (.seq (.seq (.region [⟨0, ⟨(some 5), none, (.pure .id), [(.tmp 4)]⟩, []⟩, ⟨0, ⟨(some 6), none, (.pure .id), [(.tmp 0)]⟩, []⟩, ⟨0, ⟨(some 7), none, (.pure .len), [(.tmp 6)]⟩, []⟩, ⟨0, ⟨(some 8), none, (.pure (.bin .lss .none)), [(.tmp 5), (.tmp 7)]⟩, []⟩]) (.cond (.tmp 8) .skip (.exit 0))) (.seq (.block 1 (.seq (.region [⟨0, ⟨(some 11), none, (.pure .id), [(.tmp 3)]⟩, []⟩, ⟨0, ⟨(some 12), none, (.pure .id), [(.tmp 0)]⟩, []⟩, ⟨0, ⟨(some 13), none, (.pure .id), [(.tmp 4)]⟩, []⟩, ⟨0, ⟨(some 14), none, (.pure (.iaddr 1)), [(.tmp 12), (.tmp 13)]⟩, []⟩, ⟨0, ⟨(some 15), none, (.load (.load 1 false)), [(.tmp 14)]⟩, []⟩, ⟨0, ⟨(some 16), none, (.pure .len), [(.tmp 15)]⟩, []⟩, ⟨0, ⟨(some 17), none, (.pure (.bin .add .none)), [(.tmp 11), (.tmp 16)]⟩, []⟩, ⟨0, ⟨(some 3), none, (.pure .id), [(.tmp 17)]⟩, []⟩]) (.seq (.region [⟨0, ⟨(some 18), none, (.pure .id), [(.tmp 0)]⟩, []⟩, ⟨0, ⟨(some 19), none, (.pure .id), [(.tmp 4)]⟩, []⟩, ⟨0, ⟨(some 20), none, (.pure (.iaddr 1)), [(.tmp 18), (.tmp 19)]⟩, []⟩, ⟨0, ⟨(some 21), none, (.load (.load 1 false)), [(.tmp 20)]⟩, []⟩, ⟨0, ⟨(some 22), none, (.call F_skolemref03_Normal), [(.tmp 21)]⟩, []⟩, ⟨0, ⟨(some 23), none, (.pure (.un .not)), [(.tmp 22)]⟩, []⟩]) (.cond (.tmp 23) (.seq (.region [⟨0, ⟨(some 2), none, (.pure .id), [(.const (.bool false))]⟩, []⟩]) .ret) .skip)))) (.region [⟨0, ⟨(some 9), none, (.pure .id), [(.tmp 4)]⟩, []⟩, ⟨0, ⟨(some 10), none, (.pure (.bin .add .none)), [(.tmp 9), (.const (.int .i64 1))]⟩, []⟩, ⟨0, ⟨(some 4), none, (.pure .id), [(.tmp 10)]⟩, []⟩])))))) (.seq (.region [⟨0, ⟨(some 24), none, (.pure .id), [(.tmp 0)]⟩, []⟩, ⟨0, ⟨(some 25), none, (.pure .len), [(.tmp 24)]⟩, []⟩, ⟨0, ⟨(some 26), none, (.pure (.bin .leq .none)), [(.tmp 25), (.const (.int .i64 20000))]⟩, []⟩, ⟨0, ⟨(some 27), none, (.pure .id), [(.tmp 26)]⟩, []⟩, ⟨0, ⟨(some 28), (some (27, true)), (.pure .id), [(.tmp 3)]⟩, []⟩, ⟨0, ⟨(some 29), (some (27, true)), (.pure (.bin .leq .none)), [(.tmp 28), (.const (.int .i64 200000))]⟩, []⟩, ⟨0, ⟨(some 30), none, (.pure .pick), [(.tmp 27), (.tmp 29), (.const (.bool false))]⟩, []⟩, ⟨0, ⟨(some 2), none, (.pure .id), [(.tmp 30)]⟩, []⟩]) .ret))))⟩
theorem c_skolemref03_Cnf : compF Tryz.prog Tryz.f44 = some G_skolemref03_Cnf := by kernel_rfl
theorem gc_skolemref03_Cnf {args : List DV} {σ : GS} {Post : DV → GS → Prop} (h : @exB Tryz.prog ⟨G_skolemref03_Cnf.body⟩ (genv0 args G_skolemref03_Cnf.ntmps) σ ⟨@gretB G_skolemref03_Cnf.results ⟨Post⟩⟩) : GCall Tryz.prog F_skolemref03_Cnf args σ Post := gcall_ofB seatfollows Tryz.func44 (by kernel_rfl) c_skolemref03_Cnf h
noncomputable abbrev G_skolemref03_Normal : GFun := ⟨47, [(.tmp 2)], (.seq (.region [⟨0, ⟨(some 2), none, (.pure .id), [(.const (.bool false))]⟩, []⟩]) (.seq (.seq (.region [⟨0, ⟨(some 3), none, (.pure .id), [(.const (.int .i64 0))]⟩, []⟩]) (.block 0 (.loop (.seq (.seq (.region [⟨0, ⟨(some 4), none, (.pure .id), [(.tmp 3)]⟩, []⟩, ⟨0, ⟨(some 5), none, (.pure .id), [(.tmp 0)]⟩, []⟩, ⟨0, ⟨(some 6), none, (.pure .len), [(.tmp 5)]⟩, []⟩, ⟨0, ⟨(some 7), none, (.pure (.bin .lss .none)), [(.tmp 4), (.tmp 6)]⟩, []⟩]) (.cond (.tmp 7) .skip (.exit 0))) (.seq (.block 1 (.seq (.region [⟨0, ⟨(some 10), none, (.pure .id), [(.tmp 0)]⟩, []⟩, ⟨1, ⟨(some 11), none, (.pure .id), [(.tmp 3)]⟩, []⟩, ⟨2, ⟨(some 12), none, (.pure (.iaddr 1)), [(.tmp 10), (.tmp 11)]⟩, []⟩, ⟨3, ⟨(some 13), none, (.load (.load 1 false)), [(.tmp 12)]⟩, []⟩, ⟨4, ⟨(some 14), none, (.pure (.bin .eql .none)), [(.tmp 13), (.const (.int .i64 0))]⟩, []⟩, ⟨5, ⟨(some 15), none, (.pure .id), [(.tmp 14)]⟩, []⟩, ⟨6, ⟨(some 16), (some (15, false)), (.pure .id), [(.tmp 0)]⟩, []⟩, ⟨7, ⟨(some 17), (some (15, false)), (.pure .id), [(.tmp 3)]⟩, []⟩, ⟨8, ⟨(some 18), (some (15, false)), (.pure (.iaddr 1)), [(.tmp 16), (.tmp 17)]⟩, []⟩, ⟨9, ⟨(some 19), (some (15, false)), (.load (.load 1 false)), [(.tmp 18)]⟩, []⟩, ⟨10, ⟨(some 20), (some (15, false)), (.pure (.bin .lss .none)), [(.tmp 19), (.const (.int .i64 (-65536)))]⟩, []⟩, ⟨11, ⟨(some 21), none, (.pure .pick), [(.tmp 15), (.const (.bool true)), (.tmp 20)]⟩, []⟩, ⟨12, ⟨(some 22), none, (.pure .id), [(.tmp 21)]⟩, []⟩, ⟨13, ⟨(some 23), (some (22, false)), (.pure .id), [(.tmp 0)]⟩, []⟩, ⟨14, ⟨(some 24), (some (22, false)), (.pure .id), [(.tmp 3)]⟩, []⟩, ⟨15, ⟨(some 25), (some (22, false)), (.pure (.iaddr 1)), [(.tmp 23), (.tmp 24)]⟩, []⟩, ⟨16, ⟨(some 26), (some (22, false)), (.load (.load 1 false)), [(.tmp 25)]⟩, []⟩, ⟨17, ⟨(some 27), (some (22, false)), (.pure (.bin .gtr .none)), [(.tmp 26), (.const (.int .i64 65536))]⟩, []⟩, ⟨18, ⟨(some 28), none, (.pure .pick), [(.tmp 22), (.const (.bool true)), (.tmp 27)]⟩, []⟩, ⟨19, ⟨(some 29), none, (.pure .id), [(.tmp 28)]⟩, []⟩, ⟨20, ⟨(some 30), (some (29, false)), (.pure .id), [(.tmp 3)]⟩, []⟩, ⟨21, ⟨(some 31), (some (29, false)), (.pure (.bin .gtr .none)), [(.tmp 30), (.const (.int .i64 0))]⟩, []⟩, ⟨22, ⟨(some 32), (some (29, false)), (.pure .id), [(.tmp 31)]⟩, []⟩, ⟨23, ⟨(some 33), (some (32, true)), (.pure .id), [(.tmp 0)]⟩, []⟩, ⟨24, ⟨(some 34), (some (32, true)), (.pure .id), [(.tmp 3)]⟩, []⟩, ⟨25, ⟨(some 35), (some (32, true)), (.pure (.bin .sub .none)), [(.tmp 34), (.const (.int .i64 1))]⟩, []⟩, ⟨26, ⟨(some 36), (some (32, true)), (.pure (.iaddr 1)), [(.tmp 33), (.tmp 35)]⟩, []⟩, ⟨27, ⟨(some 37), (some (32, true)), (.load (.load 1 false)), [(.tmp 36)]⟩, []⟩, ⟨29, ⟨(some 39), (some (32, true)), (.pure .id), [(.tmp 0)]⟩, []⟩, ⟨30, ⟨(some 40), (some (32, true)), (.pure .id), [(.tmp 3)]⟩, []⟩, ⟨31, ⟨(some 41), (some (32, true)), (.pure (.iaddr 1)), [(.tmp 39), (.tmp 40)]⟩, []⟩, ⟨32, ⟨(some 42), (some (32, true)), (.load (.load 1 false)), [(.tmp 41)]⟩, []⟩, ⟨28, ⟨(some 38), (some (32, true)), (.call F_skolemref03_Abs), [(.tmp 37)]⟩, [⟨(some 42), (some (32, true)), (.load (.load 1 false)), [(.tmp 41)]⟩]⟩, ⟨33, ⟨(some 43), (some (32, true)), (.call F_skolemref03_Abs), [(.tmp 42)]⟩, []⟩, ⟨34, ⟨(some 44), (some (32, true)), (.pure (.bin .geq .none)), [(.tmp 38), (.tmp 43)]⟩, []⟩, ⟨35, ⟨(some 45), (some (29, false)), (.pure .pick), [(.tmp 32), (.tmp 44), (.const (.bool false))]⟩, []⟩, ⟨36, ⟨(some 46), none, (.pure .pick), [(.tmp 29), (.const (.bool true)), (.tmp 45)]⟩, []⟩]) (.cond (.tmp 46) (.seq (.region [⟨0, ⟨(some 2), none, (.pure .id), [(.const (.bool false))]⟩, []⟩]) .ret) .skip))) (.region [⟨0, ⟨(some 8), none, (.pure .id), [(.tmp 3)]⟩, []⟩, ⟨0, ⟨(some 9), none, (.pure (.bin .add .none)), [(.tmp 8), (.const (.int .i64 1))]⟩, []⟩, ⟨0, ⟨(some 3), none, (.pure .id), [(.tmp 9)]⟩, []⟩])))))) (.seq (.region [⟨0, ⟨(some 2), none, (.pure .id), [(.const (.bool true))]⟩, []⟩]) .ret)))⟩
theorem c_skolemref03_Normal : compF Tryz.prog Tryz.f90 = some G_skolemref03_Normal := by kernel_rfl
theorem gc_skolemref03_Normal {args : List DV} {σ : GS} {Post : DV → GS → Prop} (h : @exB Tryz.prog ⟨G_skolemref03_Normal.body⟩ (genv0 args G_skolemref03_Normal.ntmps) σ ⟨@gretB G_skolemref03_Normal.results ⟨Post⟩⟩) : GCall Tryz.prog F_skolemref03_Normal args σ Post := gcall_ofB seatfollows Tryz.func90 (by kernel_rfl) c_skolemref03_Normal h
noncomputable abbrev G_prefix_cnf : GFun := ⟨59, [(.tmp 4)], (.seq (.region [⟨0, ⟨(some 4), none, (.pure .id), [(.const (.bool false))]⟩, []⟩]) (.seq (.seq (.region [⟨0, ⟨(some 11), none, (.pure .id), [(.tmp 0)]⟩, []⟩, ⟨0, ⟨(some 12), none, (.pure .len), [(.tmp 11)]⟩, []⟩, ⟨0, ⟨(some 13), none, (.pure (.bin .gtr .none)), [(.tmp 12), (.const (.int .i64 20000))]⟩, []⟩]) (.cond (.tmp 13) (.seq (.region [⟨0, ⟨(some 4), none, (.pure .id), [(.const (.bool false))]⟩, []⟩]) .ret) .skip)) (.seq (.region [⟨0, ⟨(some 5), none, (.pure .id), [(.const (.int .i64 0))]⟩, []⟩]) (.seq (.seq (.region [⟨0, ⟨(some 14), none, (.pure .id), [(.tmp 0)]⟩, []⟩, ⟨0, ⟨(some 15), none, (.pure .len), [(.tmp 14)]⟩, []⟩, ⟨0, ⟨(some 16), none, (.pure .id), [(.const (.int .i64 0))]⟩, []⟩]) (.block 0 (.loop (.seq (.region [⟨0, ⟨(some 17), none, (.pure (.bin .lss .none)), [(.tmp 16), (.tmp 15)]⟩, []⟩]) (.seq (.cond (.tmp 17) .skip (.exit 0)) (.seq (.block 1 (.seq (.region [⟨0, ⟨(some 18), none, (.pure (.iaddr 1)), [(.tmp 14), (.tmp 16)]⟩, []⟩, ⟨0, ⟨(some 19), none, (.load (.load 1 false)), [(.tmp 18)]⟩, []⟩, ⟨0, ⟨(some 7), none, (.pure .id), [(.tmp 19)]⟩, []⟩]) (.seq (.region [⟨0, ⟨(some 8), none, (.pure .id), [(.const (.int .i64 0))]⟩, []⟩]) (.seq (.seq (.region [⟨0, ⟨(some 20), none, (.pure .id), [(.tmp 7)]⟩, []⟩, ⟨0, ⟨(some 21), none, (.pure .len), [(.tmp 20)]⟩, []⟩, ⟨0, ⟨(some 22), none, (.pure .id), [(.const (.int .i64 0))]⟩, []⟩]) (.block 2 (.loop (.seq (.region [⟨0, ⟨(some 23), none, (.pure (.bin .lss .none)), [(.tmp 22), (.tmp 21)]⟩, []⟩]) (.seq (.cond (.tmp 23) .skip (.exit 2)) (.seq (.block 3 (.seq (.region [⟨0, ⟨(some 24), none, (.pure (.iaddr 1)), [(.tmp 20), (.tmp 22)]⟩, []⟩, ⟨0, ⟨(some 25), none, (.load (.load 1 false)), [(.tmp 24)]⟩, []⟩, ⟨0, ⟨(some 10), none, (.pure .id), [(.tmp 25)]⟩, []⟩]) (.seq (.seq (.region [⟨0, ⟨(some 26), none, (.pure .id), [(.tmp 10)]⟩, []⟩, ⟨0, ⟨(some 27), none, (.pure (.bin .eql .none)), [(.tmp 26), (.const (.int .i64 0))]⟩, []⟩, ⟨0, ⟨(some 28), none, (.pure .id), [(.tmp 27)]⟩, []⟩, ⟨0, ⟨(some 29), (some (28, false)), (.pure .id), [(.tmp 10)]⟩, []⟩, ⟨0, ⟨(some 30), (some (28, false)), (.pure (.bin .lss .none)), [(.tmp 29), (.const (.int .i64 (-65536)))]⟩, []⟩, ⟨0, ⟨(some 31), none, (.pure .pick), [(.tmp 28), (.const (.bool true)), (.tmp 30)]⟩, []⟩, ⟨0, ⟨(some 32), none, (.pure .id), [(.tmp 31)]⟩, []⟩, ⟨0, ⟨(some 33), (some (32, false)), (.pure .id), [(.tmp 10)]⟩, []⟩, ⟨0, ⟨(some 34), (some (32, false)), (.pure (.bin .gtr .none)), [(.tmp 33), (.const (.int .i64 65536))]⟩, []⟩, ⟨0, ⟨(some 35), none, (.pure .pick), [(.tmp 32), (.const (.bool true)), (.tmp 34)]⟩, []⟩, ⟨0, ⟨(some 36), none, (.pure .id), [(.tmp 35)]⟩, []⟩, ⟨0, ⟨(some 37), (some (36, false)), (.pure .id), [(.tmp 10)]⟩, []⟩, ⟨0, ⟨(some 38), (some (36, false)), (.call F_prefix_abs), [(.tmp 37)]⟩, []⟩, ⟨0, ⟨(some 39), (some (36, false)), (.pure .id), [(.tmp 8)]⟩, []⟩, ⟨0, ⟨(some 40), (some (36, false)), (.pure (.bin .leq .none)), [(.tmp 38), (.tmp 39)]⟩, []⟩, ⟨0, ⟨(some 41), none, (.pure .pick), [(.tmp 36), (.const (.bool true)), (.tmp 40)]⟩, []⟩, ⟨0, ⟨(some 42), none, (.pure .id), [(.tmp 41)]⟩, []⟩, ⟨0, ⟨(some 43), (some (42, false)), (.pure .id), [(.tmp 1)]⟩, []⟩, ⟨0, ⟨(some 44), (some (42, false)), (.pure .id), [(.tmp 10)]⟩, []⟩, ⟨0, ⟨(some 45), (some (42, false)), (.call F_prefix_abs), [(.tmp 44)]⟩, []⟩, ⟨0, ⟨(some 46), (some (42, false)), .callv, [(.tmp 43), (.tmp 45)]⟩, []⟩, ⟨0, ⟨(some 47), (some (42, false)), (.pure (.un .not)), [(.tmp 46)]⟩, []⟩, ⟨0, ⟨(some 48), none, (.pure .pick), [(.tmp 42), (.const (.bool true)), (.tmp 47)]⟩, []⟩]) (.cond (.tmp 48) (.seq (.region [⟨0, ⟨(some 4), none, (.pure .id), [(.const (.bool false))]⟩, []⟩]) .ret) .skip)) (.region [⟨0, ⟨(some 49), none, (.pure .id), [(.tmp 10)]⟩, []⟩, ⟨0, ⟨(some 50), none, (.call F_prefix_abs), [(.tmp 49)]⟩, []⟩, ⟨0, ⟨(some 8), none, (.pure .id), [(.tmp 50)]⟩, []⟩])))) (.region [⟨0, ⟨(some 51), none, (.pure (.bin .add .none)), [(.tmp 22), (.const (.int .i64 1))]⟩, []⟩, ⟨0, ⟨(some 22), none, (.pure .id), [(.tmp 51)]⟩, []⟩]))))))) (.region [⟨0, ⟨(some 52), none, (.pure .id), [(.tmp 5)]⟩, []⟩, ⟨0, ⟨(some 53), none, (.pure .id), [(.tmp 7)]⟩, []⟩, ⟨0, ⟨(some 54), none, (.pure .len), [(.tmp 53)]⟩, []⟩, ⟨0, ⟨(some 55), none, (.pure (.bin .add .none)), [(.tmp 52), (.tmp 54)]⟩, []⟩, ⟨0, ⟨(some 5), none, (.pure .id), [(.tmp 55)]⟩, []⟩]))))) (.region [⟨0, ⟨(some 56), none, (.pure (.bin .add .none)), [(.tmp 16), (.const (.int .i64 1))]⟩, []⟩, ⟨0, ⟨(some 16), none, (.pure .id), [(.tmp 56)]⟩, []⟩]))))))) (.seq (.region [⟨0, ⟨(some 57), none, (.pure .id), [(.tmp 5)]⟩, []⟩, ⟨0, ⟨(some 58), none, (.pure (.bin .leq .none)), [(.tmp 57), (.const (.int .i64 200000))]⟩, []⟩, ⟨0, ⟨(some 4), none, (.pure .id), [(.tmp 58)]⟩, []⟩]) .ret)))))⟩
theorem c_prefix_cnf : compF Tryz.prog Tryz.f41 = some G_prefix_cnf := by kernel_rfl
theorem gc_prefix_cnf {args : List DV} {σ : GS} {Post : DV → GS → Prop} (h : @exB Tryz.prog ⟨G_prefix_cnf.body⟩ (genv0 args G_prefix_cnf.ntmps) σ ⟨@gretB G_prefix_cnf.results ⟨Post⟩⟩) : GCall Tryz.prog F_prefix_cnf args σ Post := gcall_ofB seatfollows Tryz.func41 (by kernel_rfl) c_prefix_cnf h
end Go.Gh
namespace Go.Gh
open Go.Proofs
abbrev F_skolemlaw03_PrefixMays : Nat := 3
abbrev F_skolemlaw03_head : Nat := 9
abbrev F_prefix_MayQbf : Nat := 12
abbrev F_skolemref03_MayQbf : Nat := 13
abbrev F_prefix_MayDqbf : Nat := 14
abbrev F_skolemref03_MayDqbf : Nat := 15
abbrev F_prefix_Same : Nat := 16
abbrev F_skolemref03_Part : Nat := 24
abbrev F_prefix_has_prefix_place : Nat := 42
abbrev F_skolemref03_within : Nat := 45
abbrev F_prefix_rises : Nat := 46
abbrev F_slices_ContainsFunc_int_int : Nat := 47
abbrev F_prefix_MayDqbf_1 : Nat := 48
abbrev F_prefix_has_bool : Nat := 49
abbrev F_skolemref03_All : Nat := 50
abbrev F_skolemref03_Rises : Nat := 51
abbrev F_slices_EqualFunc_api_Block_api_Block_api_Block_api_Block : Nat := 52
abbrev F_prefix_Same_1 : Nat := 53
abbrev F_prefix_has_prefix_place_1 : Nat := 89
abbrev F_prefix_has_bool_1 : Nat := 93
noncomputable abbrev G_skolemlaw03_PrefixMays : GFun := ⟨66, [(.tmp 6)], (.seq (.region [⟨0, ⟨(some 4), none, (.new .box), [(.tmp 1)]⟩, []⟩, ⟨0, ⟨(some 5), none, (.new .box), [(.tmp 2)]⟩, []⟩, ⟨0, ⟨(some 6), none, (.pure .id), [(.const (.bool false))]⟩, []⟩]) (.seq (.seq (.region [⟨0, ⟨(some 8), none, (.pure .id), [(.tmp 0)]⟩, []⟩, ⟨0, ⟨(some 9), none, (.call F_skolemlaw03_wide), [(.tmp 8), (.const .nils), (.const (.int .i64 1600))]⟩, []⟩, ⟨0, ⟨(some 10), none, (.pure .id), [(.tmp 9)]⟩, []⟩, ⟨0, ⟨(some 11), (some (10, false)), (.pure (.faddr 0)), [(.tmp 4)]⟩, []⟩, ⟨0, ⟨(some 12), (some (10, false)), (.load (.load 1 false)), [(.tmp 11)]⟩, []⟩, ⟨0, ⟨(some 13), (some (10, false)), (.pure (.faddr 1)), [(.tmp 4)]⟩, []⟩, ⟨0, ⟨(some 14), (some (10, false)), (.load (.load 1 false)), [(.tmp 13)]⟩, []⟩, ⟨0, ⟨(some 15), (some (10, false)), (.call F_skolemlaw03_wide), [(.tmp 12), (.tmp 14), (.const (.int .i64 1600))]⟩, []⟩, ⟨0, ⟨(some 16), none, (.pure .pick), [(.tmp 10), (.const (.bool true)), (.tmp 15)]⟩, []⟩, ⟨0, ⟨(some 17), none, (.pure .id), [(.tmp 16)]⟩, []⟩, ⟨0, ⟨(some 18), (some (17, false)), (.load (.load 3 true)), [(.tmp 5)]⟩, []⟩, ⟨0, ⟨(some 19), (some (17, false)), (.call F_skolemlaw03_broad), [(.tmp 18), (.const (.int .i64 1600))]⟩, []⟩, ⟨0, ⟨(some 20), none, (.pure .pick), [(.tmp 17), (.const (.bool true)), (.tmp 19)]⟩, []⟩]) (.cond (.tmp 20) (.seq (.region [⟨0, ⟨(some 21), none, (.call F_skolemlaw03_head), []⟩, []⟩, ⟨0, ⟨(some 6), none, (.pure .id), [(.tmp 21)]⟩, []⟩]) .ret) .skip)) (.seq (.region [⟨0, ⟨(some 22), none, (.pure .id), [(.tmp 0)]⟩, []⟩, ⟨2, ⟨(some 24), none, (.pure .id), [(.tmp 0)]⟩, []⟩, ⟨1, ⟨(some 23), none, (.call F_prefix_May), [(.tmp 22)]⟩, []⟩, ⟨3, ⟨(some 25), none, (.call F_skolemref03_May), [(.tmp 24)]⟩, []⟩, ⟨4, ⟨(some 26), none, (.pure (.bin .eql .bool)), [(.tmp 23), (.tmp 25)]⟩, []⟩, ⟨5, ⟨(some 27), none, (.pure .id), [(.tmp 26)]⟩, []⟩, ⟨6, ⟨(some 28), (some (27, true)), (.load (.load 2 true)), [(.tmp 4)]⟩, []⟩, ⟨8, ⟨(some 30), (some (27, true)), (.load (.load 2 true)), [(.tmp 4)]⟩, []⟩, ⟨7, ⟨(some 29), (some (27, true)), (.call F_prefix_MayQbf), [(.tmp 28)]⟩, [⟨(some 30), (some (27, true)), (.load (.load 2 true)), [(.tmp 4)]⟩]⟩, ⟨9, ⟨(some 31), (some (27, true)), (.call F_skolemref03_MayQbf), [(.tmp 30)]⟩, []⟩, ⟨10, ⟨(some 32), (some (27, true)), (.pure (.bin .eql .bool)), [(.tmp 29), (.tmp 31)]⟩, []⟩, ⟨11, ⟨(some 33), none, (.pure .pick), [(.tmp 27), (.tmp 32), (.const (.bool false))]⟩, []⟩, ⟨12, ⟨(some 34), none, (.pure .id), [(.tmp 33)]⟩, []⟩, ⟨13, ⟨(some 35), (some (34, true)), (.load (.load 3 true)), [(.tmp 5)]⟩, []⟩, ⟨15, ⟨(some 37), (some (34, true)), (.load (.load 3 true)), [(.tmp 5)]⟩, []⟩, ⟨14, ⟨(some 36), (some (34, true)), (.call F_prefix_MayDqbf), [(.tmp 35)]⟩, [⟨(some 37), (some (34, true)), (.load (.load 3 true)), [(.tmp 5)]⟩]⟩, ⟨16, ⟨(some 38), (some (34, true)), (.call F_skolemref03_MayDqbf), [(.tmp 37)]⟩, []⟩, ⟨17, ⟨(some 39), (some (34, true)), (.pure (.bin .eql .bool)), [(.tmp 36), (.tmp 38)]⟩, []⟩, ⟨18, ⟨(some 40), none, (.pure .pick), [(.tmp 34), (.tmp 39), (.const (.bool false))]⟩, []⟩, ⟨19, ⟨(some 7), none, (.pure .id), [(.tmp 40)]⟩, []⟩]) (.seq (.region [⟨0, ⟨(some 41), none, (.pure .id), [(.tmp 7)]⟩, []⟩, ⟨1, ⟨(some 42), none, (.pure .id), [(.tmp 41)]⟩, []⟩, ⟨2, ⟨(some 43), (some (42, true)), (.pure .id), [(.tmp 0)]⟩, []⟩, ⟨3, ⟨(some 44), (some (42, true)), (.pure (.faddr 0)), [(.tmp 4)]⟩, []⟩, ⟨4, ⟨(some 45), (some (42, true)), (.load (.load 1 false)), [(.tmp 44)]⟩, []⟩, ⟨6, ⟨(some 47), (some (42, true)), (.pure .id), [(.tmp 0)]⟩, []⟩, ⟨7, ⟨(some 48), (some (42, true)), (.pure (.faddr 0)), [(.tmp 4)]⟩, []⟩, ⟨8, ⟨(some 49), (some (42, true)), (.load (.load 1 false)), [(.tmp 48)]⟩, []⟩, ⟨5, ⟨(some 46), (some (42, true)), (.call F_prefix_Same), [(.tmp 43), (.tmp 45)]⟩, [⟨(some 49), (some (42, true)), (.load (.load 1 false)), [(.tmp 48)]⟩]⟩, ⟨9, ⟨(some 50), (some (42, true)), (.call F_skolemref03_Same), [(.tmp 47), (.tmp 49)]⟩, []⟩, ⟨10, ⟨(some 51), (some (42, true)), (.pure (.bin .eql .bool)), [(.tmp 46), (.tmp 50)]⟩, []⟩, ⟨11, ⟨(some 52), none, (.pure .pick), [(.tmp 42), (.tmp 51), (.const (.bool false))]⟩, []⟩, ⟨12, ⟨(some 53), none, (.pure .id), [(.tmp 52)]⟩, []⟩, ⟨13, ⟨(some 54), (some (53, true)), (.pure .id), [(.tmp 0)]⟩, []⟩, ⟨14, ⟨(some 55), (some (53, true)), (.pure .id), [(.tmp 0)]⟩, []⟩, ⟨15, ⟨(some 56), (some (53, true)), (.call F_prefix_Same), [(.tmp 54), (.tmp 55)]⟩, []⟩, ⟨16, ⟨(some 57), none, (.pure .pick), [(.tmp 53), (.tmp 56), (.const (.bool false))]⟩, []⟩, ⟨17, ⟨(some 58), none, (.pure .id), [(.tmp 57)]⟩, []⟩, ⟨18, ⟨(some 59), (some (58, true)), (.load (.load 3 true)), [(.tmp 5)]⟩, []⟩, ⟨19, ⟨(some 60), (some (58, true)), (.load (.load 3 true)), [(.tmp 5)]⟩, []⟩, ⟨20, ⟨(some 61), (some (58, true)), (.call F_prefix_SameDqbf), [(.tmp 59), (.tmp 60)]⟩, []⟩, ⟨21, ⟨(some 62), none, (.pure .pick), [(.tmp 58), (.tmp 61), (.const (.bool false))]⟩, []⟩, ⟨22, ⟨(some 63), none, (.pure .id), [(.tmp 62)]⟩, []⟩, ⟨23, ⟨(some 64), (some (63, true)), (.call F_skolemlaw03_head), []⟩, []⟩, ⟨24, ⟨(some 65), none, (.pure .pick), [(.tmp 63), (.tmp 64), (.const (.bool false))]⟩, []⟩, ⟨25, ⟨(some 6), none, (.pure .id), [(.tmp 65)]⟩, []⟩]) .ret))))⟩
theorem c_skolemlaw03_PrefixMays : compF Tryz.prog Tryz.f3 = some G_skolemlaw03_PrefixMays := by kernel_rfl
theorem gc_skolemlaw03_PrefixMays {args : List DV} {σ : GS} {Post : DV → GS → Prop} (h : @exB Tryz.prog ⟨G_skolemlaw03_PrefixMays.body⟩ (genv0 args G_skolemlaw03_PrefixMays.ntmps) σ ⟨@gretB G_skolemlaw03_PrefixMays.results ⟨Post⟩⟩) : GCall Tryz.prog F_skolemlaw03_PrefixMays args σ Post := gcall_ofB seatfollows Tryz.func3 (by kernel_rfl) c_skolemlaw03_PrefixMays h
noncomputable abbrev G_prefix_MayQbf : GFun := ⟨15, [(.tmp 2)], (.seq (.region [⟨0, ⟨(some 1), none, (.new .box), [(.tmp 0)]⟩, []⟩, ⟨0, ⟨(some 2), none, (.pure .id), [(.const (.bool false))]⟩, []⟩]) (.seq (.region [⟨0, ⟨(some 3), none, (.pure (.faddr 0)), [(.tmp 1)]⟩, []⟩, ⟨1, ⟨(some 4), none, (.load (.load 1 false)), [(.tmp 3)]⟩, []⟩, ⟨2, ⟨(some 5), none, (.call F_prefix_May), [(.tmp 4)]⟩, []⟩, ⟨3, ⟨(some 6), none, (.pure .id), [(.tmp 5)]⟩, []⟩, ⟨4, ⟨(some 7), (some (6, true)), (.pure (.faddr 1)), [(.tmp 1)]⟩, []⟩, ⟨5, ⟨(some 8), (some (6, true)), (.load (.load 1 false)), [(.tmp 7)]⟩, []⟩, ⟨6, ⟨(some 9), (some (6, true)), (.pure (.faddr 0)), [(.tmp 1)]⟩, []⟩, ⟨7, ⟨(some 10), (some (6, true)), (.load (.load 1 false)), [(.tmp 9)]⟩, []⟩, ⟨8, ⟨(some 11), (some (6, true)), (.call F_prefix_places), [(.tmp 10)]⟩, [⟨(some 8), (some (6, true)), (.load (.load 1 false)), [(.tmp 7)]⟩]⟩, ⟨9, ⟨(some 12), (some (6, true)), (.call F_prefix_has_prefix_place), [(.tmp 11)]⟩, [⟨(some 8), (some (6, true)), (.load (.load 1 false)), [(.tmp 7)]⟩]⟩, ⟨10, ⟨(some 13), (some (6, true)), (.call F_prefix_cnf), [(.tmp 8), (.tmp 12)]⟩, []⟩, ⟨11, ⟨(some 14), none, (.pure .pick), [(.tmp 6), (.tmp 13), (.const (.bool false))]⟩, []⟩, ⟨12, ⟨(some 2), none, (.pure .id), [(.tmp 14)]⟩, []⟩]) .ret))⟩
theorem c_prefix_MayQbf : compF Tryz.prog Tryz.f12 = some G_prefix_MayQbf := by kernel_rfl
theorem gc_prefix_MayQbf {args : List DV} {σ : GS} {Post : DV → GS → Prop} (h : @exB Tryz.prog ⟨G_prefix_MayQbf.body⟩ (genv0 args G_prefix_MayQbf.ntmps) σ ⟨@gretB G_prefix_MayQbf.results ⟨Post⟩⟩) : GCall Tryz.prog F_prefix_MayQbf args σ Post := gcall_ofB seatfollows Tryz.func12 (by kernel_rfl) c_prefix_MayQbf h
noncomputable abbrev G_prefix_has_prefix_place : GFun := ⟨4, [(.tmp 2)], (.seq (.region [⟨0, ⟨(some 1), none, (.new .box), [(.tmp 0)]⟩, []⟩, ⟨0, ⟨(some 2), none, (.pure .id), [(.const .nilf)]⟩, []⟩]) (.seq (.region [⟨0, ⟨(some 3), none, (.pure (.mkfunc F_prefix_has_prefix_place_1 0)), [(.tmp 1)]⟩, []⟩, ⟨0, ⟨(some 2), none, (.pure .id), [(.tmp 3)]⟩, []⟩]) .ret))⟩
theorem c_prefix_has_prefix_place : compF Tryz.prog Tryz.f42 = some G_prefix_has_prefix_place := by kernel_rfl
theorem gc_prefix_has_prefix_place {args : List DV} {σ : GS} {Post : DV → GS → Prop} (h : @exB Tryz.prog ⟨G_prefix_has_prefix_place.body⟩ (genv0 args G_prefix_has_prefix_place.ntmps) σ ⟨@gretB G_prefix_has_prefix_place.results ⟨Post⟩⟩) : GCall Tryz.prog F_prefix_has_prefix_place args σ Post := gcall_ofB seatfollows Tryz.func42 (by kernel_rfl) c_prefix_has_prefix_place h
noncomputable abbrev G_prefix_has_prefix_place_1 : GFun := ⟨13, [(.tmp 3)], (.seq (.region [⟨0, ⟨(some 3), none, (.pure .id), [(.const (.bool false))]⟩, []⟩]) (.seq (.region [⟨0, ⟨(some 7), none, (.load (.load 1 false)), [(.tmp 1)]⟩, []⟩, ⟨0, ⟨(some 8), none, (.pure .id), [(.tmp 0)]⟩, []⟩, ⟨0, ⟨(some 9), none, (.load (.lookup (.int .i64) (.agg [(.int .i64 0), (.bool false)]) true)), [(.tmp 7), (.tmp 8)]⟩, []⟩, ⟨0, ⟨(some 6), none, (.pure .id), [(.tmp 9)]⟩, []⟩, ⟨0, ⟨(some 10), none, (.pure (.extract 0)), [(.tmp 6)]⟩, []⟩, ⟨0, ⟨(some 11), none, (.pure (.extract 1)), [(.tmp 6)]⟩, []⟩, ⟨0, ⟨(some 4), none, (.new (.alloc [(.int .i64 0), (.bool false)])), []⟩, []⟩, ⟨0, ⟨none, none, (.imp (.store 2)), [(.tmp 4), (.tmp 10)]⟩, []⟩, ⟨0, ⟨(some 5), none, (.pure .id), [(.tmp 11)]⟩, []⟩]) (.seq (.region [⟨0, ⟨(some 12), none, (.pure .id), [(.tmp 5)]⟩, []⟩, ⟨0, ⟨(some 3), none, (.pure .id), [(.tmp 12)]⟩, []⟩]) .ret)))⟩
theorem c_prefix_has_prefix_place_1 : compF Tryz.prog Tryz.f89 = some G_prefix_has_prefix_place_1 := by kernel_rfl
theorem gc_prefix_has_prefix_place_1 {args : List DV} {σ : GS} {Post : DV → GS → Prop} (h : @exB Tryz.prog ⟨G_prefix_has_prefix_place_1.body⟩ (genv0 args G_prefix_has_prefix_place_1.ntmps) σ ⟨@gretB G_prefix_has_prefix_place_1.results ⟨Post⟩⟩) : GCall Tryz.prog F_prefix_has_prefix_place_1 args σ Post := gcall_ofB seatfollows Tryz.func89 (by kernel_rfl) c_prefix_has_prefix_place_1 h
noncomputable abbrev G_skolemref03_MayQbf : GFun := ⟨19, [(.tmp 2)], (.seq (.region [⟨0, ⟨(some 1), none, (.new .box), [(.tmp 0)]⟩, []⟩, ⟨0, ⟨(some 2), none, (.pure .id), [(.const (.bool false))]⟩, []⟩]) (.seq (.region [⟨0, ⟨(some 3), none, (.pure (.faddr 0)), [(.tmp 1)]⟩, []⟩, ⟨1, ⟨(some 4), none, (.load (.load 1 false)), [(.tmp 3)]⟩, []⟩, ⟨2, ⟨(some 5), none, (.call F_skolemref03_May), [(.tmp 4)]⟩, []⟩, ⟨3, ⟨(some 6), none, (.pure .id), [(.tmp 5)]⟩, []⟩, ⟨4, ⟨(some 7), (some (6, true)), (.pure (.faddr 1)), [(.tmp 1)]⟩, []⟩, ⟨5, ⟨(some 8), (some (6, true)), (.load (.load 1 false)), [(.tmp 7)]⟩, []⟩, ⟨6, ⟨(some 9), (some (6, true)), (.call F_skolemref03_Cnf), [(.tmp 8)]⟩, []⟩, ⟨7, ⟨(some 10), none, (.pure .pick), [(.tmp 6), (.tmp 9), (.const (.bool false))]⟩, []⟩, ⟨8, ⟨(some 11), none, (.pure .id), [(.tmp 10)]⟩, []⟩, ⟨9, ⟨(some 12), (some (11, true)), (.pure (.faddr 1)), [(.tmp 1)]⟩, []⟩, ⟨10, ⟨(some 13), (some (11, true)), (.load (.load 1 false)), [(.tmp 12)]⟩, []⟩, ⟨11, ⟨(some 14), (some (11, true)), (.pure (.faddr 0)), [(.tmp 1)]⟩, []⟩, ⟨12, ⟨(some 15), (some (11, true)), (.load (.load 1 false)), [(.tmp 14)]⟩, []⟩, ⟨13, ⟨(some 16), (some (11, true)), (.call F_skolemref03_Flat), [(.tmp 15)]⟩, [⟨(some 13), (some (11, true)), (.load (.load 1 false)), [(.tmp 12)]⟩]⟩, ⟨14, ⟨(some 17), (some (11, true)), (.call F_skolemref03_within), [(.tmp 13), (.tmp 16)]⟩, []⟩, ⟨15, ⟨(some 18), none, (.pure .pick), [(.tmp 11), (.tmp 17), (.const (.bool false))]⟩, []⟩, ⟨16, ⟨(some 2), none, (.pure .id), [(.tmp 18)]⟩, []⟩]) .ret))⟩
theorem c_skolemref03_MayQbf : compF Tryz.prog Tryz.f13 = some G_skolemref03_MayQbf := by kernel_rfl
theorem gc_skolemref03_MayQbf {args : List DV} {σ : GS} {Post : DV → GS → Prop} (h : @exB Tryz.prog ⟨G_skolemref03_MayQbf.body⟩ (genv0 args G_skolemref03_MayQbf.ntmps) σ ⟨@gretB G_skolemref03_MayQbf.results ⟨Post⟩⟩) : GCall Tryz.prog F_skolemref03_MayQbf args σ Post := gcall_ofB seatfollows Tryz.func13 (by kernel_rfl) c_skolemref03_MayQbf h
noncomputable abbrev G_skolemref03_within : GFun := ⟨33, [(.tmp 4)], (.seq (.region [⟨0, ⟨(some 4), none, (.pure .id), [(.const (.bool false))]⟩, []⟩]) (.seq (.seq (.region [⟨0, ⟨(some 5), none, (.pure .id), [(.const (.int .i64 0))]⟩, []⟩]) (.block 0 (.loop (.seq (.seq (.region [⟨0, ⟨(some 7), none, (.pure .id), [(.tmp 5)]⟩, []⟩, ⟨0, ⟨(some 8), none, (.pure .id), [(.tmp 0)]⟩, []⟩, ⟨0, ⟨(some 9), none, (.pure .len), [(.tmp 8)]⟩, []⟩, ⟨0, ⟨(some 10), none, (.pure (.bin .lss .none)), [(.tmp 7), (.tmp 9)]⟩, []⟩]) (.cond (.tmp 10) .skip (.exit 0))) (.seq (.block 1 (.seq (.region [⟨0, ⟨(some 6), none, (.pure .id), [(.const (.int .i64 0))]⟩, []⟩]) (.block 2 (.loop (.seq (.seq (.region [⟨0, ⟨(some 13), none, (.pure .id), [(.tmp 6)]⟩, []⟩, ⟨0, ⟨(some 14), none, (.pure .id), [(.tmp 0)]⟩, []⟩, ⟨0, ⟨(some 15), none, (.pure .id), [(.tmp 5)]⟩, []⟩, ⟨0, ⟨(some 16), none, (.pure (.iaddr 1)), [(.tmp 14), (.tmp 15)]⟩, []⟩, ⟨0, ⟨(some 17), none, (.load (.load 1 false)), [(.tmp 16)]⟩, []⟩, ⟨0, ⟨(some 18), none, (.pure .len), [(.tmp 17)]⟩, []⟩, ⟨0, ⟨(some 19), none, (.pure (.bin .lss .none)), [(.tmp 13), (.tmp 18)]⟩, []⟩]) (.cond (.tmp 19) .skip (.exit 2))) (.seq (.block 3 (.seq (.region [⟨0, ⟨(some 22), none, (.pure .id), [(.tmp 1)]⟩, []⟩, ⟨0, ⟨(some 23), none, (.pure .id), [(.tmp 0)]⟩, []⟩, ⟨0, ⟨(some 24), none, (.pure .id), [(.tmp 5)]⟩, []⟩, ⟨0, ⟨(some 25), none, (.pure (.iaddr 1)), [(.tmp 23), (.tmp 24)]⟩, []⟩, ⟨0, ⟨(some 26), none, (.load (.load 1 false)), [(.tmp 25)]⟩, []⟩, ⟨0, ⟨(some 27), none, (.pure .id), [(.tmp 6)]⟩, []⟩, ⟨0, ⟨(some 28), none, (.pure (.iaddr 1)), [(.tmp 26), (.tmp 27)]⟩, []⟩, ⟨0, ⟨(some 29), none, (.load (.load 1 false)), [(.tmp 28)]⟩, []⟩, ⟨0, ⟨(some 30), none, (.call F_skolemref03_Abs), [(.tmp 29)]⟩, []⟩, ⟨0, ⟨(some 31), none, (.call F_skolemref03_Has), [(.tmp 22), (.tmp 30)]⟩, []⟩, ⟨0, ⟨(some 32), none, (.pure (.un .not)), [(.tmp 31)]⟩, []⟩]) (.cond (.tmp 32) (.seq (.region [⟨0, ⟨(some 4), none, (.pure .id), [(.const (.bool false))]⟩, []⟩]) .ret) .skip))) (.region [⟨0, ⟨(some 20), none, (.pure .id), [(.tmp 6)]⟩, []⟩, ⟨0, ⟨(some 21), none, (.pure (.bin .add .none)), [(.tmp 20), (.const (.int .i64 1))]⟩, []⟩, ⟨0, ⟨(some 6), none, (.pure .id), [(.tmp 21)]⟩, []⟩]))))))) (.region [⟨0, ⟨(some 11), none, (.pure .id), [(.tmp 5)]⟩, []⟩, ⟨0, ⟨(some 12), none, (.pure (.bin .add .none)), [(.tmp 11), (.const (.int .i64 1))]⟩, []⟩, ⟨0, ⟨(some 5), none, (.pure .id), [(.tmp 12)]⟩, []⟩])))))) (.seq (.region [⟨0, ⟨(some 4), none, (.pure .id), [(.const (.bool true))]⟩, []⟩]) .ret)))⟩
theorem c_skolemref03_within : compF Tryz.prog Tryz.f45 = some G_skolemref03_within := by kernel_rfl
theorem gc_skolemref03_within {args : List DV} {σ : GS} {Post : DV → GS → Prop} (h : @exB Tryz.prog ⟨G_skolemref03_within.body⟩ (genv0 args G_skolemref03_within.ntmps) σ ⟨@gretB G_skolemref03_within.results ⟨Post⟩⟩) : GCall Tryz.prog F_skolemref03_within args σ Post := gcall_ofB seatfollows Tryz.func45 (by kernel_rfl) c_skolemref03_within h
noncomputable abbrev G_prefix_MayDqbf : GFun := ⟨87, [(.tmp 2)], (.seq (.region [⟨0, ⟨(some 1), none, (.new .box), [(.tmp 0)]⟩, []⟩, ⟨0, ⟨(some 2), none, (.pure .id), [(.const (.bool false))]⟩, []⟩]) (.seq (.region [⟨0, ⟨(some 12), none, (.new .mmap), []⟩, []⟩, ⟨0, ⟨(some 13), none, (.new .mmap), []⟩, []⟩, ⟨0, ⟨(some 3), none, (.new (.alloc [.nilmap])), []⟩, []⟩, ⟨0, ⟨none, none, (.imp (.store 1)), [(.tmp 3), (.tmp 12)]⟩, []⟩, ⟨0, ⟨(some 4), none, (.pure .id), [(.tmp 13)]⟩, []⟩]) (.seq (.seq (.region [⟨0, ⟨(some 14), none, (.pure (.faddr 0)), [(.tmp 1)]⟩, []⟩, ⟨0, ⟨(some 15), none, (.load (.load 1 false)), [(.tmp 14)]⟩, []⟩, ⟨0, ⟨(some 16), none, (.pure .len), [(.tmp 15)]⟩, []⟩, ⟨0, ⟨(some 17), none, (.pure .id), [(.const (.int .i64 0))]⟩, []⟩]) (.block 0 (.loop (.seq (.region [⟨0, ⟨(some 18), none, (.pure (.bin .lss .none)), [(.tmp 17), (.tmp 16)]⟩, []⟩]) (.seq (.cond (.tmp 18) .skip (.exit 0)) (.seq (.block 1 (.seq (.region [⟨0, ⟨(some 19), none, (.pure (.iaddr 1)), [(.tmp 15), (.tmp 17)]⟩, []⟩, ⟨0, ⟨(some 20), none, (.load (.load 1 false)), [(.tmp 19)]⟩, []⟩, ⟨0, ⟨(some 6), none, (.pure .id), [(.tmp 20)]⟩, []⟩]) (.region [⟨0, ⟨(some 21), none, (.load (.load 1 false)), [(.tmp 3)]⟩, []⟩, ⟨0, ⟨(some 22), none, (.pure .id), [(.tmp 6)]⟩, []⟩, ⟨0, ⟨(some 23), none, (.pure .id), [(.tmp 4)]⟩, []⟩, ⟨0, ⟨(some 24), none, (.pure .id), [(.tmp 6)]⟩, []⟩, ⟨0, ⟨none, none, (.imp (.mset (.int .i64))), [(.tmp 21), (.tmp 22), (.const (.bool true))]⟩, []⟩, ⟨0, ⟨none, none, (.imp (.mset (.int .i64))), [(.tmp 23), (.tmp 24), (.const (.bool true))]⟩, []⟩]))) (.region [⟨0, ⟨(some 25), none, (.pure (.bin .add .none)), [(.tmp 17), (.const (.int .i64 1))]⟩, []⟩, ⟨0, ⟨(some 17), none, (.pure .id), [(.tmp 25)]⟩, []⟩]))))))) (.seq (.region [⟨0, ⟨(some 7), none, (.pure .id), [(.const .nils)]⟩, []⟩]) (.seq (.seq (.region [⟨0, ⟨(some 26), none, (.pure (.faddr 1)), [(.tmp 1)]⟩, []⟩, ⟨0, ⟨(some 27), none, (.load (.load 1 false)), [(.tmp 26)]⟩, []⟩, ⟨0, ⟨(some 28), none, (.pure .len), [(.tmp 27)]⟩, []⟩, ⟨0, ⟨(some 29), none, (.pure .id), [(.const (.int .i64 0))]⟩, []⟩]) (.block 2 (.loop (.seq (.region [⟨0, ⟨(some 30), none, (.pure (.bin .lss .none)), [(.tmp 29), (.tmp 28)]⟩, []⟩]) (.seq (.cond (.tmp 30) .skip (.exit 2)) (.seq (.block 3 (.seq (.region [⟨0, ⟨(some 31), none, (.pure (.iaddr 2)), [(.tmp 27), (.tmp 29)]⟩, []⟩, ⟨0, ⟨(some 32), none, (.load (.load 2 true)), [(.tmp 31)]⟩, []⟩, ⟨0, ⟨(some 9), none, (.new (.alloc [(.int .i64 0), .nils])), []⟩, []⟩, ⟨0, ⟨none, none, (.imp (.store 2)), [(.tmp 9), (.tmp 32)]⟩, []⟩]) (.seq (.seq (.region [⟨0, ⟨(some 33), none, (.pure .id), [(.tmp 4)]⟩, []⟩, ⟨0, ⟨(some 34), none, (.pure (.faddr 0)), [(.tmp 9)]⟩, []⟩, ⟨0, ⟨(some 35), none, (.load (.load 1 false)), [(.tmp 34)]⟩, []⟩, ⟨0, ⟨(some 36), none, (.load (.lookup (.int .i64) (.bool false) false)), [(.tmp 33), (.tmp 35)]⟩, []⟩, ⟨0, ⟨(some 37), none, (.pure .id), [(.tmp 36)]⟩, []⟩, ⟨0, ⟨(some 38), (some (37, false)), (.pure (.faddr 1)), [(.tmp 9)]⟩, []⟩, ⟨0, ⟨(some 39), (some (37, false)), (.load (.load 1 false)), [(.tmp 38)]⟩, []⟩, ⟨0, ⟨(some 40), (some (37, false)), (.call F_prefix_rises), [(.tmp 39)]⟩, []⟩, ⟨0, ⟨(some 41), (some (37, false)), (.pure (.un .not)), [(.tmp 40)]⟩, []⟩, ⟨0, ⟨(some 42), none, (.pure .pick), [(.tmp 37), (.const (.bool true)), (.tmp 41)]⟩, []⟩, ⟨0, ⟨(some 43), none, (.pure .id), [(.tmp 42)]⟩, []⟩, ⟨0, ⟨(some 44), (some (43, false)), (.pure (.faddr 1)), [(.tmp 9)]⟩, []⟩, ⟨0, ⟨(some 45), (some (43, false)), (.load (.load 1 false)), [(.tmp 44)]⟩, []⟩, ⟨0, ⟨(some 46), (some (43, false)), (.pure (.mkfunc F_prefix_MayDqbf_1 0)), [(.tmp 3)]⟩, []⟩, ⟨0, ⟨(some 47), (some (43, false)), (.call F_slices_ContainsFunc_int_int), [(.tmp 45), (.tmp 46)]⟩, []⟩, ⟨0, ⟨(some 48), none, (.pure .pick), [(.tmp 43), (.const (.bool true)), (.tmp 47)]⟩, []⟩]) (.cond (.tmp 48) (.seq (.region [⟨0, ⟨(some 2), none, (.pure .id), [(.const (.bool false))]⟩, []⟩]) .ret) .skip)) (.region [⟨0, ⟨(some 49), none, (.pure .id), [(.tmp 7)]⟩, []⟩, ⟨0, ⟨(some 50), none, (.pure (.faddr 0)), [(.tmp 9)]⟩, []⟩, ⟨0, ⟨(some 51), none, (.load (.load 1 false)), [(.tmp 50)]⟩, []⟩, ⟨0, ⟨(some 52), none, (.new (.bslice 1 [(.int .i64 0)] 1 [(0, 1)])), [(.tmp 51)]⟩, []⟩, ⟨0, ⟨(some 53), none, (.imp (.append 1 8)), [(.tmp 49), (.tmp 52)]⟩, []⟩, ⟨0, ⟨(some 7), none, (.pure .id), [(.tmp 53)]⟩, []⟩])))) (.region [⟨0, ⟨(some 54), none, (.pure (.bin .add .none)), [(.tmp 29), (.const (.int .i64 1))]⟩, []⟩, ⟨0, ⟨(some 29), none, (.pure .id), [(.tmp 54)]⟩, []⟩]))))))) (.seq (.seq (.region [⟨0, ⟨(some 55), none, (.pure .id), [(.tmp 7)]⟩, []⟩, ⟨0, ⟨(some 56), none, (.pure .len), [(.tmp 55)]⟩, []⟩, ⟨0, ⟨(some 57), none, (.pure .id), [(.const (.int .i64 0))]⟩, []⟩]) (.block 4 (.loop (.seq (.region [⟨0, ⟨(some 58), none, (.pure (.bin .lss .none)), [(.tmp 57), (.tmp 56)]⟩, []⟩]) (.seq (.cond (.tmp 58) .skip (.exit 4)) (.seq (.block 5 (.seq (.region [⟨0, ⟨(some 59), none, (.pure (.iaddr 1)), [(.tmp 55), (.tmp 57)]⟩, []⟩, ⟨0, ⟨(some 60), none, (.load (.load 1 false)), [(.tmp 59)]⟩, []⟩, ⟨0, ⟨(some 11), none, (.pure .id), [(.tmp 60)]⟩, []⟩]) (.region [⟨0, ⟨(some 61), none, (.pure .id), [(.tmp 4)]⟩, []⟩, ⟨0, ⟨(some 62), none, (.pure .id), [(.tmp 11)]⟩, []⟩, ⟨0, ⟨none, none, (.imp (.mset (.int .i64))), [(.tmp 61), (.tmp 62), (.const (.bool true))]⟩, []⟩]))) (.region [⟨0, ⟨(some 63), none, (.pure (.bin .add .none)), [(.tmp 57), (.const (.int .i64 1))]⟩, []⟩, ⟨0, ⟨(some 57), none, (.pure .id), [(.tmp 63)]⟩, []⟩]))))))) (.seq (.region [⟨0, ⟨(some 64), none, (.pure (.faddr 0)), [(.tmp 1)]⟩, []⟩, ⟨1, ⟨(some 65), none, (.load (.load 1 false)), [(.tmp 64)]⟩, []⟩, ⟨2, ⟨(some 66), none, (.call F_prefix_rises), [(.tmp 65)]⟩, []⟩, ⟨3, ⟨(some 67), none, (.pure .id), [(.tmp 66)]⟩, []⟩, ⟨4, ⟨(some 68), (some (67, true)), (.pure .id), [(.tmp 7)]⟩, []⟩, ⟨5, ⟨(some 69), (some (67, true)), (.call F_prefix_rises), [(.tmp 68)]⟩, []⟩, ⟨6, ⟨(some 70), none, (.pure .pick), [(.tmp 67), (.tmp 69), (.const (.bool false))]⟩, []⟩, ⟨7, ⟨(some 71), none, (.pure .id), [(.tmp 70)]⟩, []⟩, ⟨8, ⟨(some 72), (some (71, true)), (.pure (.faddr 0)), [(.tmp 1)]⟩, []⟩, ⟨9, ⟨(some 73), (some (71, true)), (.load (.load 1 false)), [(.tmp 72)]⟩, []⟩, ⟨10, ⟨(some 74), (some (71, true)), (.pure .len), [(.tmp 73)]⟩, []⟩, ⟨11, ⟨(some 75), (some (71, true)), (.pure .id), [(.tmp 7)]⟩, []⟩, ⟨12, ⟨(some 76), (some (71, true)), (.pure .len), [(.tmp 75)]⟩, []⟩, ⟨13, ⟨(some 77), (some (71, true)), (.pure (.bin .add .none)), [(.tmp 74), (.tmp 76)]⟩, []⟩, ⟨14, ⟨(some 78), (some (71, true)), (.pure (.bin .leq .none)), [(.tmp 77), (.const (.int .i64 1024))]⟩, []⟩, ⟨15, ⟨(some 79), none, (.pure .pick), [(.tmp 71), (.tmp 78), (.const (.bool false))]⟩, []⟩, ⟨16, ⟨(some 80), none, (.pure .id), [(.tmp 79)]⟩, []⟩, ⟨17, ⟨(some 81), (some (80, true)), (.pure (.faddr 2)), [(.tmp 1)]⟩, []⟩, ⟨18, ⟨(some 82), (some (80, true)), (.load (.load 1 false)), [(.tmp 81)]⟩, []⟩, ⟨19, ⟨(some 83), (some (80, true)), (.pure .id), [(.tmp 4)]⟩, []⟩, ⟨20, ⟨(some 84), (some (80, true)), (.call F_prefix_has_bool), [(.tmp 83)]⟩, [⟨(some 82), (some (80, true)), (.load (.load 1 false)), [(.tmp 81)]⟩]⟩, ⟨21, ⟨(some 85), (some (80, true)), (.call F_prefix_cnf), [(.tmp 82), (.tmp 84)]⟩, []⟩, ⟨22, ⟨(some 86), none, (.pure .pick), [(.tmp 80), (.tmp 85), (.const (.bool false))]⟩, []⟩, ⟨23, ⟨(some 2), none, (.pure .id), [(.tmp 86)]⟩, []⟩]) .ret)))))))⟩
theorem c_prefix_MayDqbf : compF Tryz.prog Tryz.f14 = some G_prefix_MayDqbf := by kernel_rfl
theorem gc_prefix_MayDqbf {args : List DV} {σ : GS} {Post : DV → GS → Prop} (h : @exB Tryz.prog ⟨G_prefix_MayDqbf.body⟩ (genv0 args G_prefix_MayDqbf.ntmps) σ ⟨@gretB G_prefix_MayDqbf.results ⟨Post⟩⟩) : GCall Tryz.prog F_prefix_MayDqbf args σ Post := gcall_ofB seatfollows Tryz.func14 (by kernel_rfl) c_prefix_MayDqbf h
noncomputable abbrev G_prefix_rises : GFun := ⟨32, [(.tmp 2)], (.seq (.region [⟨0, ⟨(some 2), none, (.pure .id), [(.const (.bool false))]⟩, []⟩]) (.seq (.seq (.region [⟨0, ⟨(some 5), none, (.pure .id), [(.tmp 0)]⟩, []⟩, ⟨0, ⟨(some 6), none, (.pure .len), [(.tmp 5)]⟩, []⟩, ⟨0, ⟨(some 7), none, (.pure .id), [(.const (.int .i64 0))]⟩, []⟩]) (.block 0 (.loop (.seq (.region [⟨0, ⟨(some 8), none, (.pure (.bin .lss .none)), [(.tmp 7), (.tmp 6)]⟩, []⟩]) (.seq (.cond (.tmp 8) .skip (.exit 0)) (.seq (.block 1 (.seq (.region [⟨0, ⟨(some 9), none, (.pure .id), [(.tmp 7)]⟩, []⟩, ⟨0, ⟨(some 10), none, (.pure (.iaddr 1)), [(.tmp 5), (.tmp 7)]⟩, []⟩, ⟨0, ⟨(some 11), none, (.load (.load 1 false)), [(.tmp 10)]⟩, []⟩, ⟨0, ⟨(some 3), none, (.pure .id), [(.tmp 9)]⟩, []⟩, ⟨0, ⟨(some 4), none, (.pure .id), [(.tmp 11)]⟩, []⟩]) (.seq (.region [⟨0, ⟨(some 12), none, (.pure .id), [(.tmp 4)]⟩, []⟩, ⟨0, ⟨(some 13), none, (.pure (.bin .lss .none)), [(.tmp 12), (.const (.int .i64 1))]⟩, []⟩, ⟨0, ⟨(some 14), none, (.pure .id), [(.tmp 13)]⟩, []⟩, ⟨0, ⟨(some 15), (some (14, false)), (.pure .id), [(.tmp 4)]⟩, []⟩, ⟨0, ⟨(some 16), (some (14, false)), (.pure (.bin .gtr .none)), [(.tmp 15), (.const (.int .i64 65536))]⟩, []⟩, ⟨0, ⟨(some 17), none, (.pure .pick), [(.tmp 14), (.const (.bool true)), (.tmp 16)]⟩, []⟩, ⟨0, ⟨(some 18), none, (.pure .id), [(.tmp 17)]⟩, []⟩, ⟨0, ⟨(some 19), (some (18, false)), (.pure .id), [(.tmp 3)]⟩, []⟩, ⟨0, ⟨(some 20), (some (18, false)), (.pure (.bin .gtr .none)), [(.tmp 19), (.const (.int .i64 0))]⟩, []⟩, ⟨0, ⟨(some 21), (some (18, false)), (.pure .id), [(.tmp 20)]⟩, []⟩, ⟨0, ⟨(some 22), (some (21, true)), (.pure .id), [(.tmp 0)]⟩, []⟩, ⟨0, ⟨(some 23), (some (21, true)), (.pure .id), [(.tmp 3)]⟩, []⟩, ⟨0, ⟨(some 24), (some (21, true)), (.pure (.bin .sub .none)), [(.tmp 23), (.const (.int .i64 1))]⟩, []⟩, ⟨0, ⟨(some 25), (some (21, true)), (.pure (.iaddr 1)), [(.tmp 22), (.tmp 24)]⟩, []⟩, ⟨0, ⟨(some 26), (some (21, true)), (.load (.load 1 false)), [(.tmp 25)]⟩, []⟩, ⟨0, ⟨(some 27), (some (21, true)), (.pure .id), [(.tmp 4)]⟩, []⟩, ⟨0, ⟨(some 28), (some (21, true)), (.pure (.bin .geq .none)), [(.tmp 26), (.tmp 27)]⟩, []⟩, ⟨0, ⟨(some 29), (some (18, false)), (.pure .pick), [(.tmp 21), (.tmp 28), (.const (.bool false))]⟩, []⟩, ⟨0, ⟨(some 30), none, (.pure .pick), [(.tmp 18), (.const (.bool true)), (.tmp 29)]⟩, []⟩]) (.cond (.tmp 30) (.seq (.region [⟨0, ⟨(some 2), none, (.pure .id), [(.const (.bool false))]⟩, []⟩]) .ret) .skip)))) (.region [⟨0, ⟨(some 31), none, (.pure (.bin .add .none)), [(.tmp 7), (.const (.int .i64 1))]⟩, []⟩, ⟨0, ⟨(some 7), none, (.pure .id), [(.tmp 31)]⟩, []⟩]))))))) (.seq (.region [⟨0, ⟨(some 2), none, (.pure .id), [(.const (.bool true))]⟩, []⟩]) .ret)))⟩
theorem c_prefix_rises : compF Tryz.prog Tryz.f46 = some G_prefix_rises := by kernel_rfl
theorem gc_prefix_rises {args : List DV} {σ : GS} {Post : DV → GS → Prop} (h : @exB Tryz.prog ⟨G_prefix_rises.body⟩ (genv0 args G_prefix_rises.ntmps) σ ⟨@gretB G_prefix_rises.results ⟨Post⟩⟩) : GCall Tryz.prog F_prefix_rises args σ Post := gcall_ofB seatfollows Tryz.func46 (by kernel_rfl) c_prefix_rises h
noncomputable abbrev G_slices_ContainsFunc_int_int : GFun := ⟨9, [(.tmp 4)], (.seq (.region [⟨0, ⟨(some 4), none, (.pure .id), [(.const (.bool false))]⟩, []⟩]) (.seq (.region [⟨0, ⟨(some 5), none, (.pure .id), [(.tmp 0)]⟩, []⟩, ⟨0, ⟨(some 6), none, (.pure .id), [(.tmp 1)]⟩, []⟩, ⟨0, ⟨(some 7), none, (.call F_slices_IndexFunc_int_int), [(.tmp 5), (.tmp 6)]⟩, []⟩, ⟨0, ⟨(some 8), none, (.pure (.bin .geq .none)), [(.tmp 7), (.const (.int .i64 0))]⟩, []⟩, ⟨0, ⟨(some 4), none, (.pure .id), [(.tmp 8)]⟩, []⟩]) .ret))⟩
theorem c_slices_ContainsFunc_int_int : compF Tryz.prog Tryz.f47 = some G_slices_ContainsFunc_int_int := by kernel_rfl
theorem gc_slices_ContainsFunc_int_int {args : List DV} {σ : GS} {Post : DV → GS → Prop} (h : @exB Tryz.prog ⟨G_slices_ContainsFunc_int_int.body⟩ (genv0 args G_slices_ContainsFunc_int_int.ntmps) σ ⟨@gretB G_slices_ContainsFunc_int_int.results ⟨Post⟩⟩) : GCall Tryz.prog F_slices_ContainsFunc_int_int args σ Post := gcall_ofB seatfollows Tryz.func47 (by kernel_rfl) c_slices_ContainsFunc_int_int h
noncomputable abbrev G_prefix_MayDqbf_1 : GFun := ⟨8, [(.tmp 3)], (.seq (.region [⟨0, ⟨(some 3), none, (.pure .id), [(.const (.bool false))]⟩, []⟩]) (.seq (.region [⟨0, ⟨(some 4), none, (.load (.load 1 false)), [(.tmp 1)]⟩, []⟩, ⟨0, ⟨(some 5), none, (.pure .id), [(.tmp 0)]⟩, []⟩, ⟨0, ⟨(some 6), none, (.load (.lookup (.int .i64) (.bool false) false)), [(.tmp 4), (.tmp 5)]⟩, []⟩, ⟨0, ⟨(some 7), none, (.pure (.un .not)), [(.tmp 6)]⟩, []⟩, ⟨0, ⟨(some 3), none, (.pure .id), [(.tmp 7)]⟩, []⟩]) .ret))⟩
theorem c_prefix_MayDqbf_1 : compF Tryz.prog Tryz.f48 = some G_prefix_MayDqbf_1 := by kernel_rfl
theorem gc_prefix_MayDqbf_1 {args : List DV} {σ : GS} {Post : DV → GS → Prop} (h : @exB Tryz.prog ⟨G_prefix_MayDqbf_1.body⟩ (genv0 args G_prefix_MayDqbf_1.ntmps) σ ⟨@gretB G_prefix_MayDqbf_1.results ⟨Post⟩⟩) : GCall Tryz.prog F_prefix_MayDqbf_1 args σ Post := gcall_ofB seatfollows Tryz.func48 (by kernel_rfl) c_prefix_MayDqbf_1 h
noncomputable abbrev G_prefix_has_bool : GFun := ⟨4, [(.tmp 2)], (.seq (.region [⟨0, ⟨(some 1), none, (.new .box), [(.tmp 0)]⟩, []⟩, ⟨0, ⟨(some 2), none, (.pure .id), [(.const .nilf)]⟩, []⟩]) (.seq (.region [⟨0, ⟨(some 3), none, (.pure (.mkfunc F_prefix_has_bool_1 0)), [(.tmp 1)]⟩, []⟩, ⟨0, ⟨(some 2), none, (.pure .id), [(.tmp 3)]⟩, []⟩]) .ret))⟩
theorem c_prefix_has_bool : compF Tryz.prog Tryz.f49 = some G_prefix_has_bool := by kernel_rfl
theorem gc_prefix_has_bool {args : List DV} {σ : GS} {Post : DV → GS → Prop} (h : @exB Tryz.prog ⟨G_prefix_has_bool.body⟩ (genv0 args G_prefix_has_bool.ntmps) σ ⟨@gretB G_prefix_has_bool.results ⟨Post⟩⟩) : GCall Tryz.prog F_prefix_has_bool args σ Post := gcall_ofB seatfollows Tryz.func49 (by kernel_rfl) c_prefix_has_bool h
noncomputable abbrev G_prefix_has_bool_1 : GFun := ⟨13, [(.tmp 3)], (.seq (.region [⟨0, ⟨(some 3), none, (.pure .id), [(.const (.bool false))]⟩, []⟩]) (.seq (.region [⟨0, ⟨(some 7), none, (.load (.load 1 false)), [(.tmp 1)]⟩, []⟩, ⟨0, ⟨(some 8), none, (.pure .id), [(.tmp 0)]⟩, []⟩, ⟨0, ⟨(some 9), none, (.load (.lookup (.int .i64) (.bool false) true)), [(.tmp 7), (.tmp 8)]⟩, []⟩, ⟨0, ⟨(some 6), none, (.pure .id), [(.tmp 9)]⟩, []⟩, ⟨0, ⟨(some 10), none, (.pure (.extract 0)), [(.tmp 6)]⟩, []⟩, ⟨0, ⟨(some 11), none, (.pure (.extract 1)), [(.tmp 6)]⟩, []⟩, ⟨0, ⟨(some 4), none, (.pure .id), [(.tmp 10)]⟩, []⟩, ⟨0, ⟨(some 5), none, (.pure .id), [(.tmp 11)]⟩, []⟩]) (.seq (.region [⟨0, ⟨(some 12), none, (.pure .id), [(.tmp 5)]⟩, []⟩, ⟨0, ⟨(some 3), none, (.pure .id), [(.tmp 12)]⟩, []⟩]) .ret)))⟩
theorem c_prefix_has_bool_1 : compF Tryz.prog Tryz.f93 = some G_prefix_has_bool_1 := by kernel_rfl
theorem gc_prefix_has_bool_1 {args : List DV} {σ : GS} {Post : DV → GS → Prop} (h : @exB Tryz.prog ⟨G_prefix_has_bool_1.body⟩ (genv0 args G_prefix_has_bool_1.ntmps) σ ⟨@gretB G_prefix_has_bool_1.results ⟨Post⟩⟩) : GCall Tryz.prog F_prefix_has_bool_1 args σ Post := gcall_ofB seatfollows Tryz.func93 (by kernel_rfl) c_prefix_has_bool_1 h
noncomputable abbrev G_skolemref03_MayDqbf : GFun := ⟨70, [(.tmp 2)], (.seq (.region [⟨0, ⟨(some 1), none, (.new .box), [(.tmp 0)]⟩, []⟩, ⟨0, ⟨(some 2), none, (.pure .id), [(.const (.bool false))]⟩, []⟩]) (.seq (.region [⟨0, ⟨(some 5), none, (.load (.load 3 true)), [(.tmp 1)]⟩, []⟩, ⟨0, ⟨(some 6), none, (.call F_skolemref03_All), [(.tmp 5)]⟩, []⟩, ⟨0, ⟨(some 3), none, (.pure .id), [(.tmp 6)]⟩, []⟩]) (.seq (.seq (.region [⟨0, ⟨(some 7), none, (.pure .id), [(.tmp 3)]⟩, []⟩, ⟨0, ⟨(some 8), none, (.pure .len), [(.tmp 7)]⟩, []⟩, ⟨0, ⟨(some 9), none, (.pure (.bin .gtr .none)), [(.tmp 8), (.const (.int .i64 1024))]⟩, []⟩, ⟨0, ⟨(some 10), none, (.pure .id), [(.tmp 9)]⟩, []⟩, ⟨0, ⟨(some 11), (some (10, false)), (.pure .id), [(.tmp 3)]⟩, []⟩, ⟨0, ⟨(some 12), (some (10, false)), (.call F_skolemref03_single), [(.tmp 11)]⟩, []⟩, ⟨0, ⟨(some 13), (some (10, false)), (.pure (.un .not)), [(.tmp 12)]⟩, []⟩, ⟨0, ⟨(some 14), none, (.pure .pick), [(.tmp 10), (.const (.bool true)), (.tmp 13)]⟩, []⟩, ⟨0, ⟨(some 15), none, (.pure .id), [(.tmp 14)]⟩, []⟩, ⟨0, ⟨(some 16), (some (15, false)), (.pure (.faddr 0)), [(.tmp 1)]⟩, []⟩, ⟨0, ⟨(some 17), (some (15, false)), (.load (.load 1 false)), [(.tmp 16)]⟩, []⟩, ⟨0, ⟨(some 18), (some (15, false)), (.call F_skolemref03_Rises), [(.tmp 17)]⟩, []⟩, ⟨0, ⟨(some 19), (some (15, false)), (.pure (.un .not)), [(.tmp 18)]⟩, []⟩, ⟨0, ⟨(some 20), none, (.pure .pick), [(.tmp 15), (.const (.bool true)), (.tmp 19)]⟩, []⟩, ⟨0, ⟨(some 21), none, (.pure .id), [(.tmp 20)]⟩, []⟩, ⟨0, ⟨(some 22), (some (21, false)), (.pure .id), [(.tmp 3)]⟩, []⟩, ⟨0, ⟨(some 23), (some (21, false)), (.pure (.faddr 0)), [(.tmp 1)]⟩, []⟩, ⟨0, ⟨(some 24), (some (21, false)), (.load (.load 1 false)), [(.tmp 23)]⟩, []⟩, ⟨0, ⟨(some 25), (some (21, false)), (.pure .len), [(.tmp 24)]⟩, []⟩, ⟨0, ⟨(some 26), (some (21, false)), (.pure (.slice 1 true false false)), [(.tmp 22), (.tmp 25)]⟩, []⟩, ⟨0, ⟨(some 27), (some (21, false)), (.call F_skolemref03_Rises), [(.tmp 26)]⟩, []⟩, ⟨0, ⟨(some 28), (some (21, false)), (.pure (.un .not)), [(.tmp 27)]⟩, []⟩, ⟨0, ⟨(some 29), none, (.pure .pick), [(.tmp 21), (.const (.bool true)), (.tmp 28)]⟩, []⟩, ⟨0, ⟨(some 30), none, (.pure .id), [(.tmp 29)]⟩, []⟩, ⟨0, ⟨(some 31), (some (30, false)), (.pure (.faddr 2)), [(.tmp 1)]⟩, []⟩, ⟨0, ⟨(some 32), (some (30, false)), (.load (.load 1 false)), [(.tmp 31)]⟩, []⟩, ⟨0, ⟨(some 33), (some (30, false)), (.call F_skolemref03_Cnf), [(.tmp 32)]⟩, []⟩, ⟨0, ⟨(some 34), (some (30, false)), (.pure (.un .not)), [(.tmp 33)]⟩, []⟩, ⟨0, ⟨(some 35), none, (.pure .pick), [(.tmp 30), (.const (.bool true)), (.tmp 34)]⟩, []⟩, ⟨0, ⟨(some 36), none, (.pure .id), [(.tmp 35)]⟩, []⟩, ⟨0, ⟨(some 37), (some (36, false)), (.pure (.faddr 2)), [(.tmp 1)]⟩, []⟩, ⟨0, ⟨(some 38), (some (36, false)), (.load (.load 1 false)), [(.tmp 37)]⟩, []⟩, ⟨0, ⟨(some 39), (some (36, false)), (.pure .id), [(.tmp 3)]⟩, []⟩, ⟨0, ⟨(some 40), (some (36, false)), (.call F_skolemref03_within), [(.tmp 38), (.tmp 39)]⟩, []⟩, ⟨0, ⟨(some 41), (some (36, false)), (.pure (.un .not)), [(.tmp 40)]⟩, []⟩, ⟨0, ⟨(some 42), none, (.pure .pick), [(.tmp 36), (.const (.bool true)), (.tmp 41)]⟩, []⟩]) (.cond (.tmp 42) (.seq (.region [⟨0, ⟨(some 2), none, (.pure .id), [(.const (.bool false))]⟩, []⟩]) .ret) .skip)) (.seq (.seq (.region [⟨0, ⟨(some 4), none, (.pure .id), [(.const (.int .i64 0))]⟩, []⟩]) (.block 0 (.loop (.seq (.seq (.region [⟨0, ⟨(some 43), none, (.pure .id), [(.tmp 4)]⟩, []⟩, ⟨0, ⟨(some 44), none, (.pure (.faddr 1)), [(.tmp 1)]⟩, []⟩, ⟨0, ⟨(some 45), none, (.load (.load 1 false)), [(.tmp 44)]⟩, []⟩, ⟨0, ⟨(some 46), none, (.pure .len), [(.tmp 45)]⟩, []⟩, ⟨0, ⟨(some 47), none, (.pure (.bin .lss .none)), [(.tmp 43), (.tmp 46)]⟩, []⟩]) (.cond (.tmp 47) .skip (.exit 0))) (.seq (.block 1 (.seq (.region [⟨0, ⟨(some 50), none, (.pure (.faddr 1)), [(.tmp 1)]⟩, []⟩, ⟨1, ⟨(some 51), none, (.load (.load 1 false)), [(.tmp 50)]⟩, []⟩, ⟨2, ⟨(some 52), none, (.pure .id), [(.tmp 4)]⟩, []⟩, ⟨3, ⟨(some 53), none, (.pure (.iaddr 2)), [(.tmp 51), (.tmp 52)]⟩, []⟩, ⟨4, ⟨(some 54), none, (.pure (.faddr 1)), [(.tmp 53)]⟩, []⟩, ⟨5, ⟨(some 55), none, (.load (.load 1 false)), [(.tmp 54)]⟩, []⟩, ⟨6, ⟨(some 56), none, (.call F_skolemref03_Rises), [(.tmp 55)]⟩, []⟩, ⟨7, ⟨(some 57), none, (.pure (.un .not)), [(.tmp 56)]⟩, []⟩, ⟨8, ⟨(some 58), none, (.pure .id), [(.tmp 57)]⟩, []⟩, ⟨9, ⟨(some 59), (some (58, false)), (.pure (.faddr 1)), [(.tmp 1)]⟩, []⟩, ⟨10, ⟨(some 60), (some (58, false)), (.load (.load 1 false)), [(.tmp 59)]⟩, []⟩, ⟨11, ⟨(some 61), (some (58, false)), (.pure .id), [(.tmp 4)]⟩, []⟩, ⟨12, ⟨(some 62), (some (58, false)), (.pure (.iaddr 2)), [(.tmp 60), (.tmp 61)]⟩, []⟩, ⟨13, ⟨(some 63), (some (58, false)), (.pure (.faddr 1)), [(.tmp 62)]⟩, []⟩, ⟨14, ⟨(some 64), (some (58, false)), (.load (.load 1 false)), [(.tmp 63)]⟩, []⟩, ⟨15, ⟨(some 65), (some (58, false)), (.pure (.faddr 0)), [(.tmp 1)]⟩, []⟩, ⟨16, ⟨(some 66), (some (58, false)), (.load (.load 1 false)), [(.tmp 65)]⟩, []⟩, ⟨17, ⟨(some 67), (some (58, false)), (.call F_skolemref03_Part), [(.tmp 64), (.tmp 66)]⟩, []⟩, ⟨18, ⟨(some 68), (some (58, false)), (.pure (.un .not)), [(.tmp 67)]⟩, []⟩, ⟨19, ⟨(some 69), none, (.pure .pick), [(.tmp 58), (.const (.bool true)), (.tmp 68)]⟩, []⟩]) (.cond (.tmp 69) (.seq (.region [⟨0, ⟨(some 2), none, (.pure .id), [(.const (.bool false))]⟩, []⟩]) .ret) .skip))) (.region [⟨0, ⟨(some 48), none, (.pure .id), [(.tmp 4)]⟩, []⟩, ⟨0, ⟨(some 49), none, (.pure (.bin .add .none)), [(.tmp 48), (.const (.int .i64 1))]⟩, []⟩, ⟨0, ⟨(some 4), none, (.pure .id), [(.tmp 49)]⟩, []⟩])))))) (.seq (.region [⟨0, ⟨(some 2), none, (.pure .id), [(.const (.bool true))]⟩, []⟩]) .ret)))))⟩
theorem c_skolemref03_MayDqbf : compF Tryz.prog Tryz.f15 = some G_skolemref03_MayDqbf := by kernel_rfl
theorem gc_skolemref03_MayDqbf {args : List DV} {σ : GS} {Post : DV → GS → Prop} (h : @exB Tryz.prog ⟨G_skolemref03_MayDqbf.body⟩ (genv0 args G_skolemref03_MayDqbf.ntmps) σ ⟨@gretB G_skolemref03_MayDqbf.results ⟨Post⟩⟩) : GCall Tryz.prog F_skolemref03_MayDqbf args σ Post := gcall_ofB seatfollows Tryz.func15 (by kernel_rfl) c_skolemref03_MayDqbf h
noncomputable abbrev G_skolemref03_All : GFun := ⟨26, [(.tmp 2)], (.seq (.region [⟨0, ⟨(some 1), none, (.new .box), [(.tmp 0)]⟩, []⟩, ⟨0, ⟨(some 2), none, (.pure .id), [(.const .nils)]⟩, []⟩]) (.seq (.region [⟨0, ⟨(some 5), none, (.new (.bslice 1 [(.int .i64 0)] 0 [])), []⟩, []⟩, ⟨0, ⟨(some 6), none, (.pure (.faddr 0)), [(.tmp 1)]⟩, []⟩, ⟨0, ⟨(some 7), none, (.load (.load 1 false)), [(.tmp 6)]⟩, []⟩, ⟨0, ⟨(some 8), none, (.imp (.append 1 8)), [(.tmp 5), (.tmp 7)]⟩, []⟩, ⟨0, ⟨(some 3), none, (.pure .id), [(.tmp 8)]⟩, []⟩]) (.seq (.seq (.region [⟨0, ⟨(some 4), none, (.pure .id), [(.const (.int .i64 0))]⟩, []⟩]) (.block 0 (.loop (.seq (.seq (.region [⟨0, ⟨(some 9), none, (.pure .id), [(.tmp 4)]⟩, []⟩, ⟨0, ⟨(some 10), none, (.pure (.faddr 1)), [(.tmp 1)]⟩, []⟩, ⟨0, ⟨(some 11), none, (.load (.load 1 false)), [(.tmp 10)]⟩, []⟩, ⟨0, ⟨(some 12), none, (.pure .len), [(.tmp 11)]⟩, []⟩, ⟨0, ⟨(some 13), none, (.pure (.bin .lss .none)), [(.tmp 9), (.tmp 12)]⟩, []⟩]) (.cond (.tmp 13) .skip (.exit 0))) (.seq (.block 1 (.region [⟨0, ⟨(some 16), none, (.pure .id), [(.tmp 3)]⟩, []⟩, ⟨0, ⟨(some 17), none, (.pure (.faddr 1)), [(.tmp 1)]⟩, []⟩, ⟨0, ⟨(some 18), none, (.load (.load 1 false)), [(.tmp 17)]⟩, []⟩, ⟨0, ⟨(some 19), none, (.pure .id), [(.tmp 4)]⟩, []⟩, ⟨0, ⟨(some 20), none, (.pure (.iaddr 2)), [(.tmp 18), (.tmp 19)]⟩, []⟩, ⟨0, ⟨(some 21), none, (.pure (.faddr 0)), [(.tmp 20)]⟩, []⟩, ⟨0, ⟨(some 22), none, (.load (.load 1 false)), [(.tmp 21)]⟩, []⟩, ⟨0, ⟨(some 23), none, (.new (.bslice 1 [(.int .i64 0)] 1 [(0, 1)])), [(.tmp 22)]⟩, []⟩, ⟨0, ⟨(some 24), none, (.imp (.append 1 8)), [(.tmp 16), (.tmp 23)]⟩, []⟩, ⟨0, ⟨(some 3), none, (.pure .id), [(.tmp 24)]⟩, []⟩])) (.region [⟨0, ⟨(some 14), none, (.pure .id), [(.tmp 4)]⟩, []⟩, ⟨0, ⟨(some 15), none, (.pure (.bin .add .none)), [(.tmp 14), (.const (.int .i64 1))]⟩, []⟩, ⟨0, ⟨(some 4), none, (.pure .id), [(.tmp 15)]⟩, []⟩])))))) (.seq (.region [⟨0, ⟨(some 25), none, (.pure .id), [(.tmp 3)]⟩, []⟩, ⟨0, ⟨(some 2), none, (.pure .id), [(.tmp 25)]⟩, []⟩]) .ret))))⟩
theorem c_skolemref03_All : compF Tryz.prog Tryz.f50 = some G_skolemref03_All := by kernel_rfl
theorem gc_skolemref03_All {args : List DV} {σ : GS} {Post : DV → GS → Prop} (h : @exB Tryz.prog ⟨G_skolemref03_All.body⟩ (genv0 args G_skolemref03_All.ntmps) σ ⟨@gretB G_skolemref03_All.results ⟨Post⟩⟩) : GCall Tryz.prog F_skolemref03_All args σ Post := gcall_ofB seatfollows Tryz.func50 (by kernel_rfl) c_skolemref03_All h
noncomputable abbrev G_skolemref03_Rises : GFun := ⟨38, [(.tmp 2)], (.seq (.region [⟨0, ⟨(some 2), none, (.pure .id), [(.const (.bool false))]⟩, []⟩]) (.seq (.seq (.region [⟨0, ⟨(some 3), none, (.pure .id), [(.const (.int .i64 0))]⟩, []⟩]) (.block 0 (.loop (.seq (.seq (.region [⟨0, ⟨(some 4), none, (.pure .id), [(.tmp 3)]⟩, []⟩, ⟨0, ⟨(some 5), none, (.pure .id), [(.tmp 0)]⟩, []⟩, ⟨0, ⟨(some 6), none, (.pure .len), [(.tmp 5)]⟩, []⟩, ⟨0, ⟨(some 7), none, (.pure (.bin .lss .none)), [(.tmp 4), (.tmp 6)]⟩, []⟩]) (.cond (.tmp 7) .skip (.exit 0))) (.seq (.block 1 (.seq (.region [⟨0, ⟨(some 10), none, (.pure .id), [(.tmp 0)]⟩, []⟩, ⟨1, ⟨(some 11), none, (.pure .id), [(.tmp 3)]⟩, []⟩, ⟨2, ⟨(some 12), none, (.pure (.iaddr 1)), [(.tmp 10), (.tmp 11)]⟩, []⟩, ⟨3, ⟨(some 13), none, (.load (.load 1 false)), [(.tmp 12)]⟩, []⟩, ⟨4, ⟨(some 14), none, (.pure (.bin .lss .none)), [(.tmp 13), (.const (.int .i64 1))]⟩, []⟩, ⟨5, ⟨(some 15), none, (.pure .id), [(.tmp 14)]⟩, []⟩, ⟨6, ⟨(some 16), (some (15, false)), (.pure .id), [(.tmp 0)]⟩, []⟩, ⟨7, ⟨(some 17), (some (15, false)), (.pure .id), [(.tmp 3)]⟩, []⟩, ⟨8, ⟨(some 18), (some (15, false)), (.pure (.iaddr 1)), [(.tmp 16), (.tmp 17)]⟩, []⟩, ⟨9, ⟨(some 19), (some (15, false)), (.load (.load 1 false)), [(.tmp 18)]⟩, []⟩, ⟨10, ⟨(some 20), (some (15, false)), (.pure (.bin .gtr .none)), [(.tmp 19), (.const (.int .i64 65536))]⟩, []⟩, ⟨11, ⟨(some 21), none, (.pure .pick), [(.tmp 15), (.const (.bool true)), (.tmp 20)]⟩, []⟩, ⟨12, ⟨(some 22), none, (.pure .id), [(.tmp 21)]⟩, []⟩, ⟨13, ⟨(some 23), (some (22, false)), (.pure .id), [(.tmp 3)]⟩, []⟩, ⟨14, ⟨(some 24), (some (22, false)), (.pure (.bin .gtr .none)), [(.tmp 23), (.const (.int .i64 0))]⟩, []⟩, ⟨15, ⟨(some 25), (some (22, false)), (.pure .id), [(.tmp 24)]⟩, []⟩, ⟨16, ⟨(some 26), (some (25, true)), (.pure .id), [(.tmp 0)]⟩, []⟩, ⟨17, ⟨(some 27), (some (25, true)), (.pure .id), [(.tmp 3)]⟩, []⟩, ⟨18, ⟨(some 28), (some (25, true)), (.pure (.bin .sub .none)), [(.tmp 27), (.const (.int .i64 1))]⟩, []⟩, ⟨19, ⟨(some 29), (some (25, true)), (.pure (.iaddr 1)), [(.tmp 26), (.tmp 28)]⟩, []⟩, ⟨20, ⟨(some 30), (some (25, true)), (.load (.load 1 false)), [(.tmp 29)]⟩, []⟩, ⟨21, ⟨(some 31), (some (25, true)), (.pure .id), [(.tmp 0)]⟩, []⟩, ⟨22, ⟨(some 32), (some (25, true)), (.pure .id), [(.tmp 3)]⟩, []⟩, ⟨23, ⟨(some 33), (some (25, true)), (.pure (.iaddr 1)), [(.tmp 31), (.tmp 32)]⟩, []⟩, ⟨24, ⟨(some 34), (some (25, true)), (.load (.load 1 false)), [(.tmp 33)]⟩, []⟩, ⟨25, ⟨(some 35), (some (25, true)), (.pure (.bin .geq .none)), [(.tmp 30), (.tmp 34)]⟩, []⟩, ⟨26, ⟨(some 36), (some (22, false)), (.pure .pick), [(.tmp 25), (.tmp 35), (.const (.bool false))]⟩, []⟩, ⟨27, ⟨(some 37), none, (.pure .pick), [(.tmp 22), (.const (.bool true)), (.tmp 36)]⟩, []⟩]) (.cond (.tmp 37) (.seq (.region [⟨0, ⟨(some 2), none, (.pure .id), [(.const (.bool false))]⟩, []⟩]) .ret) .skip))) (.region [⟨0, ⟨(some 8), none, (.pure .id), [(.tmp 3)]⟩, []⟩, ⟨0, ⟨(some 9), none, (.pure (.bin .add .none)), [(.tmp 8), (.const (.int .i64 1))]⟩, []⟩, ⟨0, ⟨(some 3), none, (.pure .id), [(.tmp 9)]⟩, []⟩])))))) (.seq (.region [⟨0, ⟨(some 2), none, (.pure .id), [(.const (.bool true))]⟩, []⟩]) .ret)))⟩
theorem c_skolemref03_Rises : compF Tryz.prog Tryz.f51 = some G_skolemref03_Rises := by kernel_rfl
theorem gc_skolemref03_Rises {args : List DV} {σ : GS} {Post : DV → GS → Prop} (h : @exB Tryz.prog ⟨G_skolemref03_Rises.body⟩ (genv0 args G_skolemref03_Rises.ntmps) σ ⟨@gretB G_skolemref03_Rises.results ⟨Post⟩⟩) : GCall Tryz.prog F_skolemref03_Rises args σ Post := gcall_ofB seatfollows Tryz.func51 (by kernel_rfl) c_skolemref03_Rises h
noncomputable abbrev G_skolemref03_Part : GFun := ⟨19, [(.tmp 4)], (.seq (.region [⟨0, ⟨(some 4), none, (.pure .id), [(.const (.bool false))]⟩, []⟩]) (.seq (.seq (.region [⟨0, ⟨(some 5), none, (.pure .id), [(.const (.int .i64 0))]⟩, []⟩]) (.block 0 (.loop (.seq (.seq (.region [⟨0, ⟨(some 6), none, (.pure .id), [(.tmp 5)]⟩, []⟩, ⟨0, ⟨(some 7), none, (.pure .id), [(.tmp 0)]⟩, []⟩, ⟨0, ⟨(some 8), none, (.pure .len), [(.tmp 7)]⟩, []⟩, ⟨0, ⟨(some 9), none, (.pure (.bin .lss .none)), [(.tmp 6), (.tmp 8)]⟩, []⟩]) (.cond (.tmp 9) .skip (.exit 0))) (.seq (.block 1 (.seq (.region [⟨0, ⟨(some 12), none, (.pure .id), [(.tmp 1)]⟩, []⟩, ⟨0, ⟨(some 13), none, (.pure .id), [(.tmp 0)]⟩, []⟩, ⟨0, ⟨(some 14), none, (.pure .id), [(.tmp 5)]⟩, []⟩, ⟨0, ⟨(some 15), none, (.pure (.iaddr 1)), [(.tmp 13), (.tmp 14)]⟩, []⟩, ⟨0, ⟨(some 16), none, (.load (.load 1 false)), [(.tmp 15)]⟩, []⟩, ⟨0, ⟨(some 17), none, (.call F_skolemref03_Has), [(.tmp 12), (.tmp 16)]⟩, []⟩, ⟨0, ⟨(some 18), none, (.pure (.un .not)), [(.tmp 17)]⟩, []⟩]) (.cond (.tmp 18) (.seq (.region [⟨0, ⟨(some 4), none, (.pure .id), [(.const (.bool false))]⟩, []⟩]) .ret) .skip))) (.region [⟨0, ⟨(some 10), none, (.pure .id), [(.tmp 5)]⟩, []⟩, ⟨0, ⟨(some 11), none, (.pure (.bin .add .none)), [(.tmp 10), (.const (.int .i64 1))]⟩, []⟩, ⟨0, ⟨(some 5), none, (.pure .id), [(.tmp 11)]⟩, []⟩])))))) (.seq (.region [⟨0, ⟨(some 4), none, (.pure .id), [(.const (.bool true))]⟩, []⟩]) .ret)))⟩
theorem c_skolemref03_Part : compF Tryz.prog Tryz.f24 = some G_skolemref03_Part := by kernel_rfl
theorem gc_skolemref03_Part {args : List DV} {σ : GS} {Post : DV → GS → Prop} (h : @exB Tryz.prog ⟨G_skolemref03_Part.body⟩ (genv0 args G_skolemref03_Part.ntmps) σ ⟨@gretB G_skolemref03_Part.results ⟨Post⟩⟩) : GCall Tryz.prog F_skolemref03_Part args σ Post := gcall_ofB seatfollows Tryz.func24 (by kernel_rfl) c_skolemref03_Part h
noncomputable abbrev G_prefix_Same : GFun := ⟨8, [(.tmp 4)], (.seq (.region [⟨0, ⟨(some 4), none, (.pure .id), [(.const (.bool false))]⟩, []⟩]) (.seq (.region [⟨0, ⟨(some 5), none, (.pure .id), [(.tmp 0)]⟩, []⟩, ⟨0, ⟨(some 6), none, (.pure .id), [(.tmp 1)]⟩, []⟩, ⟨0, ⟨(some 7), none, (.call F_slices_EqualFunc_api_Block_api_Block_api_Block_api_Block), [(.tmp 5), (.tmp 6), (.const (.func F_prefix_Same_1 [] []))]⟩, []⟩, ⟨0, ⟨(some 4), none, (.pure .id), [(.tmp 7)]⟩, []⟩]) .ret))⟩
theorem c_prefix_Same : compF Tryz.prog Tryz.f16 = some G_prefix_Same := by kernel_rfl
theorem gc_prefix_Same {args : List DV} {σ : GS} {Post : DV → GS → Prop} (h : @exB Tryz.prog ⟨G_prefix_Same.body⟩ (genv0 args G_prefix_Same.ntmps) σ ⟨@gretB G_prefix_Same.results ⟨Post⟩⟩) : GCall Tryz.prog F_prefix_Same args σ Post := gcall_ofB seatfollows Tryz.func16 (by kernel_rfl) c_prefix_Same h
noncomputable abbrev G_prefix_Same_1 : GFun := ⟨17, [(.tmp 4)], (.seq (.region [⟨0, ⟨(some 2), none, (.new .box), [(.tmp 0)]⟩, []⟩, ⟨0, ⟨(some 3), none, (.new .box), [(.tmp 1)]⟩, []⟩, ⟨0, ⟨(some 4), none, (.pure .id), [(.const (.bool false))]⟩, []⟩]) (.seq (.region [⟨0, ⟨(some 5), none, (.pure (.faddr 0)), [(.tmp 2)]⟩, []⟩, ⟨0, ⟨(some 6), none, (.load (.load 1 false)), [(.tmp 5)]⟩, []⟩, ⟨0, ⟨(some 7), none, (.pure (.faddr 0)), [(.tmp 3)]⟩, []⟩, ⟨0, ⟨(some 8), none, (.load (.load 1 false)), [(.tmp 7)]⟩, []⟩, ⟨0, ⟨(some 9), none, (.pure (.bin .eql .bool)), [(.tmp 6), (.tmp 8)]⟩, []⟩, ⟨0, ⟨(some 10), none, (.pure .id), [(.tmp 9)]⟩, []⟩, ⟨0, ⟨(some 11), (some (10, true)), (.pure (.faddr 1)), [(.tmp 2)]⟩, []⟩, ⟨0, ⟨(some 12), (some (10, true)), (.load (.load 1 false)), [(.tmp 11)]⟩, []⟩, ⟨0, ⟨(some 13), (some (10, true)), (.pure (.faddr 1)), [(.tmp 3)]⟩, []⟩, ⟨0, ⟨(some 14), (some (10, true)), (.load (.load 1 false)), [(.tmp 13)]⟩, []⟩, ⟨0, ⟨(some 15), (some (10, true)), (.call F_slices_Equal_int_int), [(.tmp 12), (.tmp 14)]⟩, []⟩, ⟨0, ⟨(some 16), none, (.pure .pick), [(.tmp 10), (.tmp 15), (.const (.bool false))]⟩, []⟩, ⟨0, ⟨(some 4), none, (.pure .id), [(.tmp 16)]⟩, []⟩]) .ret))⟩
theorem c_prefix_Same_1 : compF Tryz.prog Tryz.f53 = some G_prefix_Same_1 := by kernel_rfl
theorem gc_prefix_Same_1 {args : List DV} {σ : GS} {Post : DV → GS → Prop} (h : @exB Tryz.prog ⟨G_prefix_Same_1.body⟩ (genv0 args G_prefix_Same_1.ntmps) σ ⟨@gretB G_prefix_Same_1.results ⟨Post⟩⟩) : GCall Tryz.prog F_prefix_Same_1 args σ Post := gcall_ofB seatfollows Tryz.func53 (by kernel_rfl) c_prefix_Same_1 h
noncomputable abbrev G_slices_EqualFunc_api_Block_api_Block_api_Block_api_Block : GFun := ⟨32, [(.tmp 6)], (.seq (.region [⟨0, ⟨(some 6), none, (.pure .id), [(.const (.bool false))]⟩, []⟩]) (.seq (.seq (.region [⟨0, ⟨(some 10), none, (.pure .id), [(.tmp 0)]⟩, []⟩, ⟨0, ⟨(some 11), none, (.pure .len), [(.tmp 10)]⟩, []⟩, ⟨0, ⟨(some 12), none, (.pure .id), [(.tmp 1)]⟩, []⟩, ⟨0, ⟨(some 13), none, (.pure .len), [(.tmp 12)]⟩, []⟩, ⟨0, ⟨(some 14), none, (.pure (.bin .neq .none)), [(.tmp 11), (.tmp 13)]⟩, []⟩]) (.cond (.tmp 14) (.seq (.region [⟨0, ⟨(some 6), none, (.pure .id), [(.const (.bool false))]⟩, []⟩]) .ret) .skip)) (.seq (.seq (.region [⟨0, ⟨(some 15), none, (.pure .id), [(.tmp 0)]⟩, []⟩, ⟨0, ⟨(some 16), none, (.pure .len), [(.tmp 15)]⟩, []⟩, ⟨0, ⟨(some 17), none, (.pure .id), [(.const (.int .i64 0))]⟩, []⟩]) (.block 0 (.loop (.seq (.region [⟨0, ⟨(some 18), none, (.pure (.bin .lss .none)), [(.tmp 17), (.tmp 16)]⟩, []⟩]) (.seq (.cond (.tmp 18) .skip (.exit 0)) (.seq (.block 1 (.seq (.region [⟨0, ⟨(some 19), none, (.pure .id), [(.tmp 17)]⟩, []⟩, ⟨0, ⟨(some 20), none, (.pure (.iaddr 2)), [(.tmp 15), (.tmp 17)]⟩, []⟩, ⟨0, ⟨(some 21), none, (.load (.load 2 true)), [(.tmp 20)]⟩, []⟩, ⟨0, ⟨(some 8), none, (.new (.alloc [(.bool false), .nils])), []⟩, []⟩, ⟨0, ⟨(some 7), none, (.pure .id), [(.tmp 19)]⟩, []⟩, ⟨0, ⟨none, none, (.imp (.store 2)), [(.tmp 8), (.tmp 21)]⟩, []⟩]) (.seq (.region [⟨0, ⟨(some 22), none, (.pure .id), [(.tmp 1)]⟩, []⟩, ⟨0, ⟨(some 23), none, (.pure .id), [(.tmp 7)]⟩, []⟩, ⟨0, ⟨(some 24), none, (.pure (.iaddr 2)), [(.tmp 22), (.tmp 23)]⟩, []⟩, ⟨0, ⟨(some 25), none, (.load (.load 2 true)), [(.tmp 24)]⟩, []⟩, ⟨0, ⟨(some 9), none, (.new (.alloc [(.bool false), .nils])), []⟩, []⟩, ⟨0, ⟨none, none, (.imp (.store 2)), [(.tmp 9), (.tmp 25)]⟩, []⟩]) (.seq (.region [⟨0, ⟨(some 26), none, (.pure .id), [(.tmp 2)]⟩, []⟩, ⟨0, ⟨(some 27), none, (.load (.load 2 true)), [(.tmp 8)]⟩, []⟩, ⟨0, ⟨(some 28), none, (.load (.load 2 true)), [(.tmp 9)]⟩, []⟩, ⟨0, ⟨(some 29), none, .callv, [(.tmp 26), (.tmp 27), (.tmp 28)]⟩, []⟩, ⟨0, ⟨(some 30), none, (.pure (.un .not)), [(.tmp 29)]⟩, []⟩]) (.cond (.tmp 30) (.seq (.region [⟨0, ⟨(some 6), none, (.pure .id), [(.const (.bool false))]⟩, []⟩]) .ret) .skip))))) (.region [⟨0, ⟨(some 31), none, (.pure (.bin .add .none)), [(.tmp 17), (.const (.int .i64 1))]⟩, []⟩, ⟨0, ⟨(some 17), none, (.pure .id), [(.tmp 31)]⟩, []⟩]))))))) (.seq (.region [⟨0, ⟨(some 6), none, (.pure .id), [(.const (.bool true))]⟩, []⟩]) .ret))))⟩
theorem c_slices_EqualFunc_api_Block_api_Block_api_Block_api_Block : compF Tryz.prog Tryz.f52 = some G_slices_EqualFunc_api_Block_api_Block_api_Block_api_Block := by kernel_rfl
theorem gc_slices_EqualFunc_api_Block_api_Block_api_Block_api_Block {args : List DV} {σ : GS} {Post : DV → GS → Prop} (h : @exB Tryz.prog ⟨G_slices_EqualFunc_api_Block_api_Block_api_Block_api_Block.body⟩ (genv0 args G_slices_EqualFunc_api_Block_api_Block_api_Block_api_Block.ntmps) σ ⟨@gretB G_slices_EqualFunc_api_Block_api_Block_api_Block_api_Block.results ⟨Post⟩⟩) : GCall Tryz.prog F_slices_EqualFunc_api_Block_api_Block_api_Block_api_Block args σ Post := gcall_ofB seatfollows Tryz.func52 (by kernel_rfl) c_slices_EqualFunc_api_Block_api_Block_api_Block_api_Block h
end Go.Gh
namespace Go.Gh
open Go.RowKit Go.Proofs
set_option linter.unusedVariables false
set_option linter.unusedSimpArgs false
set_option maxRecDepth 100000
theorem p_Equal_ok {xs ys : List Int} {σ : GS} {Post : DV → GS → Prop} (hl : xs.length < 2 ^ 60) (h : Post (.bool (decide (xs = ys))) σ) : GCall Tryz.prog F_slices_Equal_int_int [fints xs, fints ys] σ Post := by
  refine gc_slices_Equal_int_int ?_
  by_cases hlen : xs.length = ys.length
  rotate_left
  · have hne : xs ≠ ys := fun e => hlen (by rw [e])
    have hlen' : ¬ ((xs.length : Int) = ys.length) := by omega
    simp [G_slices_Equal_int_int, genv0, List.replicate, hlen']
    simpa [hne] using h
  simp [G_slices_Equal_int_int, genv0, List.replicate, hlen]
  refine gfor xs.length (fun i e σ' => σ' = σ ∧ (xs = ys ↔ xs.drop i = ys.drop i) ∧ e = mkEnv 26 [(0, fints xs), (1, fints ys), (12, .int .i64 xs.length), (13, .int .i64 i)]) _ ?_ ⟨rfl, by simp, rfl⟩ ?_
  · simp [mkEnv, List.replicate, hlen]
  rintro i _ _ hi ⟨rfl, hI, rfl⟩
  simp [mkEnv, List.replicate]
  by_cases hlt : i < xs.length
  · obtain ⟨x, hx⟩ := nth_lt hlt
    obtain ⟨y, hy⟩ := nth_lt (l := ys) (i := i) (by omega)
    rw [drop_get hx, drop_get hy, List.cons.injEq] at hI
    have es : IntKind.i64.wrap ((i : Int) + 1) = (i : Int) + 1 := by rw [wrap_small] <;> omega
    by_cases c : x = y
    · simp [hlt, hx, hy, c, es]
      exact forK_go _ hlt (by simp [mkEnv, List.replicate]) ⟨rfl, by rw [hI]; simp [c], rfl⟩
    · have hne : xs ≠ ys := fun e => c (hI.1 e).1
      simp [hlt, hx, hy, c]
      simpa [hne] using h
  · have : i = xs.length := by omega
    subst this
    have he : xs = ys := hI.2 (by rw [List.drop_length, hlen, List.drop_length])
    simp
    simpa [he] using h
theorem r_Ints_ok {xs ys : List Int} {σ : GS} {Post : DV → GS → Prop} (hl : xs.length < 2 ^ 60) (h : Post (.bool (decide (xs = ys))) σ) : GCall Tryz.prog F_skolemref03_Ints [fints xs, fints ys] σ Post := by
  refine gc_skolemref03_Ints ?_
  by_cases hlen : xs.length = ys.length
  rotate_left
  · have hne : xs ≠ ys := fun e => hlen (by rw [e])
    have hlen' : ¬ ((xs.length : Int) = ys.length) := by omega
    simp [G_skolemref03_Ints, genv0, List.replicate, hlen']
    simpa [hne] using h
  simp [G_skolemref03_Ints, genv0, List.replicate, hlen]
  refine gfor xs.length (fun i e σ' => σ' = σ ∧ (xs = ys ↔ xs.drop i = ys.drop i) ∧ e = mkEnv 26 [(0, fints xs), (1, fints ys), (5, .int .i64 i)]) _ ?_ ⟨rfl, by simp, rfl⟩ ?_
  · simp [mkEnv, List.replicate]
  rintro i _ _ hi ⟨rfl, hI, rfl⟩
  simp [mkEnv, List.replicate]
  by_cases hlt : i < xs.length
  · obtain ⟨x, hx⟩ := nth_lt hlt
    obtain ⟨y, hy⟩ := nth_lt (l := ys) (i := i) (by omega)
    rw [drop_get hx, drop_get hy, List.cons.injEq] at hI
    have es : IntKind.i64.wrap ((i : Int) + 1) = (i : Int) + 1 := by rw [wrap_small] <;> omega
    by_cases c : x = y
    · simp [hlt, hx, hy, c, es]
      exact forK_go _ hlt (by simp [mkEnv, List.replicate]) ⟨rfl, by rw [hI]; simp [c], rfl⟩
    · have hne : xs ≠ ys := fun e => c (hI.1 e).1
      simp [hlt, hx, hy, c]
      simpa [hne] using h
  · have : i = xs.length := by omega
    subst this
    have he : xs = ys := hI.2 (by rw [List.drop_length, hlen, List.drop_length])
    simp
    simpa [he] using h
theorem p_Equals_ok {xs ys : List (List Int)} {σ : GS} {Post : DV → GS → Prop} (hl : ClsSm xs) (h : Post (.bool (decide (xs = ys))) σ) : GCall Tryz.prog F_slices_EqualFunc_int_int_int_int [fcls xs, fcls ys, .func F_slices_Equal_int_int [] []] σ Post := by
  obtain ⟨hl1, hl2⟩ := hl
  refine gc_slices_EqualFunc_int_int_int_int ?_
  by_cases hlen : xs.length = ys.length
  rotate_left
  · have hne : xs ≠ ys := fun e => hlen (by rw [e])
    have hlen' : ¬ ((xs.length : Int) = ys.length) := by omega
    simp [G_slices_EqualFunc_int_int_int_int, genv0, List.replicate, hlen']
    simpa [hne] using h
  simp [G_slices_EqualFunc_int_int_int_int, genv0, List.replicate, hlen]
  refine gfor xs.length (fun i e σ' => σ' = σ ∧ (xs = ys ↔ xs.drop i = ys.drop i) ∧ e = mkEnv 32 [(1, fcls ys), (2, .func F_slices_Equal_int_int [] []), (15, fcls xs), (16, .int .i64 xs.length), (17, .int .i64 i)]) _ ?_ ⟨rfl, by simp, rfl⟩ ?_
  · simp [mkEnv, List.replicate, hlen]
  rintro i _ _ hi ⟨rfl, hI, rfl⟩
  simp [mkEnv, List.replicate]
  by_cases hlt : i < xs.length
  · obtain ⟨x, hx⟩ := nth_lt hlt
    obtain ⟨y, hy⟩ := nth_lt (l := ys) (i := i) (by omega)
    have hx' := nth_get hx
    have hxl := hl2 x (List.mem_of_getElem? hx')
    rw [drop_get hx, drop_get hy, List.cons.injEq] at hI
    have es : IntKind.i64.wrap ((i : Int) + 1) = (i : Int) + 1 := by rw [wrap_small] <;> omega
    simp [hlt, hx, hy]
    refine p_Equal_ok (by omega) ?_
    by_cases c : x = y
    · simp [c, es]
      exact forK_go _ hlt (by simp [mkEnv, List.replicate]) ⟨rfl, by rw [hI]; simp [c], rfl⟩
    · have hne : xs ≠ ys := fun e => c (hI.1 e).1
      simp [c]
      simpa [hne] using h
  · have : i = xs.length := by omega
    subst this
    have he : xs = ys := hI.2 (by rw [List.drop_length, hlen, List.drop_length])
    simp
    simpa [he] using h
theorem p_SameDep_ok {x y : Dep} {σ : GS} {Post : DV → GS → Prop} (hl : x.2.length < 2 ^ 60) (h : Post (.bool (decide (x = y))) σ) : GCall Tryz.prog F_prefix_SameDqbf_1 [.agg (edep x), .agg (edep y)] σ Post := by
  refine GCall.say (r := .bool (decide (x = y))) ?_ rfl h
  refine gc_prefix_SameDqbf_1 ?_
  obtain ⟨a, xs⟩ := x
  obtain ⟨b, ys⟩ := y
  by_cases c : a = b
  · simp [G_prefix_SameDqbf_1, genv0, List.replicate, c]
    refine p_Equal_ok hl ?_
    simp [c]
  · simp [G_prefix_SameDqbf_1, genv0, List.replicate, c]
theorem p_EqDeps_ok {xs ys : List Dep} {σ : GS} {Post : DV → GS → Prop} (hl : DepSm xs) (h : Post (.bool (decide (xs = ys))) σ) : GCall Tryz.prog F_slices_EqualFunc_api_Dep_api_Dep_api_Dep_api_Dep [fdeps xs, fdeps ys, .func F_prefix_SameDqbf_1 [] []] σ Post := by
  obtain ⟨hl1, hl2⟩ := hl
  refine GCall.say (r := .bool (decide (xs = ys))) ?_ rfl h
  refine gc_slices_EqualFunc_api_Dep_api_Dep_api_Dep_api_Dep ?_
  by_cases hlen : xs.length = ys.length
  rotate_left
  · have hne : xs ≠ ys := fun e => hlen (by rw [e])
    have hlen' : ¬ ((xs.length : Int) = ys.length) := by omega
    simp [G_slices_EqualFunc_api_Dep_api_Dep_api_Dep_api_Dep, genv0, List.replicate, hlen', hne]
    exact .rfl'
  simp [G_slices_EqualFunc_api_Dep_api_Dep_api_Dep_api_Dep, genv0, List.replicate, hlen]
  refine gfor xs.length (fun i e σ' => Fr σ.length σ σ' ∧ (xs = ys ↔ xs.drop i = ys.drop i) ∧ e = mkEnv 32 [(1, fdeps ys), (2, .func F_prefix_SameDqbf_1 [] []), (15, fdeps xs), (16, .int .i64 xs.length), (17, .int .i64 i)]) _ ?_ ⟨.rfl', by simp, rfl⟩ ?_
  · simp [mkEnv, List.replicate, hlen]
  rintro i _ σ1 hi ⟨hF, hI, rfl⟩
  simp [mkEnv, List.replicate]
  by_cases hlt : i < xs.length
  · obtain ⟨x, hx⟩ := nth_lt hlt
    obtain ⟨y, hy⟩ := nth_lt (l := ys) (i := i) (by omega)
    have hx' := nth_get hx
    have hxl := hl2 x (List.mem_of_getElem? hx')
    rw [drop_get hx, drop_get hy, List.cons.injEq] at hI
    have es : IntKind.i64.wrap ((i : Int) + 1) = (i : Int) + 1 := by rw [wrap_small] <;> omega
    simp [hlt, hx, hy]
    refine p_SameDep_ok (x := x) (y := y) (by omega) ?_
    by_cases c : x = y
    · simp [c, es]
      exact forK_go _ hlt (by simp [mkEnv, List.replicate]) ⟨hF.app _, by rw [hI]; simp [c], rfl⟩
    · have hne : xs ≠ ys := fun e => c (hI.1 e).1
      simp [c, hne]
      exact hF.app _
  · have : i = xs.length := by omega
    subst this
    have he : xs = ys := hI.2 (by rw [List.drop_length, hlen, List.drop_length])
    simp [he]
    exact hF
end Go.Gh
namespace Go.Gh
open Go.RowKit Go.Proofs
set_option linter.unusedVariables false
set_option linter.unusedSimpArgs false
set_option maxRecDepth 100000
/-- Two Dqbfs are equal by every field. -/
def sameD (a b : DqbfP) : Bool := decide (a.univ = b.univ ∧ a.exist = b.exist ∧ a.cls = b.cls)
theorem p_SameDqbf_ok {a b : DqbfP} {σ : GS} {Post : DV → GS → Prop} (ha : a.Sm) (h : Post (.bool (sameD a b)) σ) : GCall Tryz.prog F_prefix_SameDqbf [a.enc, b.enc] σ Post := by
  have h1 := ha.univ
  refine GCall.say (r := .bool (sameD a b)) ?_ rfl h
  refine gc_prefix_SameDqbf ?_
  simp [G_prefix_SameDqbf, genv0, List.replicate]
  refine p_EqDeps_ok ha.exist ?_
  by_cases c1 : a.exist = b.exist
  rotate_left
  · simp [c1, sameD]
  simp [c1]
  refine p_Equal_ok (by omega) ?_
  by_cases c2 : a.univ = b.univ
  rotate_left
  · simp [c1, c2, sameD]
  simp [c2]
  refine p_Equals_ok ha.cls ?_
  simp [sameD, c1, c2]
/-- Whatever it says of the size. -/
theorem l_wide_any {p : List Blk} {c : List (List Int)} {most : Int} {σ : GS} {Post : DV → GS → Prop} (hp : p.length < 2 ^ 60) (hc : c.length < 2 ^ 60) (h : ∀ b, Post (.bool b) σ) : GCall Tryz.prog F_skolemlaw03_wide [fblks p, fcls c, .int .i64 most] σ Post := by
  refine gc_skolemlaw03_wide ?_
  simp [G_skolemlaw03_wide, genv0, List.replicate]
  refine gfor p.length (fun i e σ' => σ' = σ ∧ ∃ n, e = mkEnv 45 [(0, fblks p), (1, fcls c), (2, .int .i64 most), (7, .int .i64 n), (8, .int .i64 i)]) _ ?_ ⟨rfl, IntKind.i64.wrap ((p.length : Int) + c.length), rfl⟩ ?_
  · simp [mkEnv, List.replicate]
  rintro i _ σ hi ⟨rfl, n, rfl⟩
  simp [mkEnv, List.replicate]
  by_cases hlt : i < p.length
  · obtain ⟨x, hx⟩ := nth_lt hlt
    have es : IntKind.i64.wrap ((i : Int) + 1) = (i : Int) + 1 := by rw [wrap_small] <;> omega
    simp [hlt, hx, es]
    exact forK_go _ hlt (by simp [mkEnv, List.replicate]) ⟨rfl, IntKind.i64.wrap (n + x.2.length), rfl⟩
  have : i = p.length := by omega
  subst this
  simp
  refine gfor c.length (fun i e σ' => σ' = σ ∧ ∃ n, e = mkEnv 45 [(1, fcls c), (2, .int .i64 most), (7, .int .i64 n), (9, .int .i64 i)]) _ ?_ ⟨rfl, n, rfl⟩ ?_
  · simp [mkEnv, List.replicate]
  rintro i _ _ hi ⟨rfl, n, rfl⟩
  simp [mkEnv, List.replicate]
  by_cases hlt : i < c.length
  · obtain ⟨x, hx⟩ := nth_lt hlt
    have es : IntKind.i64.wrap ((i : Int) + 1) = (i : Int) + 1 := by rw [wrap_small] <;> omega
    simp [hlt, hx, es]
    exact forK_go _ hlt (by simp [mkEnv, List.replicate]) ⟨rfl, IntKind.i64.wrap (n + x.length), rfl⟩
  have : i = c.length := by omega
  subst this
  simp
  exact h _
theorem l_wide_nil {c : List (List Int)} {most : Int} {σ : GS} {Post : DV → GS → Prop} (hc : c.length < 2 ^ 60) (h : ∀ b, Post (.bool b) σ) : GCall Tryz.prog F_skolemlaw03_wide [.nils, fcls c, .int .i64 most] σ Post := by
  refine GCall.reads (args' := [fblks [], fcls c, .int .i64 most]) (.cons (.nils 2) (.cons (.same _) (.cons (.same _) .nil))) (l_wide_any (by simp) hc h)
theorem l_broad_any {d : DqbfP} {most : Int} {σ : GS} {Post : DV → GS → Prop} (hd : d.Sm) (h : ∀ b, Post (.bool b) σ) : GCall Tryz.prog F_skolemlaw03_broad [d.enc, .int .i64 most] σ Post := by
  have h1 := hd.exist.1
  have h2 := hd.cls.1
  refine gcall_sayB ?_ h
  refine gc_skolemlaw03_broad ?_
  simp [G_skolemlaw03_broad, genv0, List.replicate]
  obtain ⟨A, hA⟩ : ∃ A, GObj.row false [fints d.univ, fdeps d.exist, fcls d.cls] = A := ⟨_, rfl⟩
  rw [hA]
  refine gfor d.exist.length (fun i e σ' => σ' = σ ++ [A] ∧ ∃ n, e = mkEnv 39 [(1, .int .i64 most), (2, .ptr σ.length 0), (5, .int .i64 n), (6, .int .i64 i)]) _ ?_ ⟨rfl, IntKind.i64.wrap ((d.univ.length : Int) + d.exist.length), rfl⟩ ?_
  · simp [mkEnv, List.replicate]
  rintro i _ _ hi ⟨rfl, n, rfl⟩
  simp [mkEnv, List.replicate, ← hA]
  by_cases hlt : i < d.exist.length
  · obtain ⟨x, hx⟩ := nth_lt hlt
    have es : IntKind.i64.wrap ((i : Int) + 1) = (i : Int) + 1 := by rw [wrap_small] <;> omega
    simp [hlt, hx, es]
    exact forK_go _ hlt (by simp [mkEnv, List.replicate]) ⟨by rw [hA], IntKind.i64.wrap (n + x.2.length), rfl⟩
  have : i = d.exist.length := by omega
  subst this
  by_cases c : most < n
  · simp [c]
  · simp [c]
    refine l_wide_nil (by omega) fun b => ?_
    simp
end Go.Gh
namespace Go.Gh
open Go.RowKit Go.Proofs
set_option linter.unusedVariables false
set_option linter.unusedSimpArgs false
set_option maxRecDepth 100000
theorem r_Has_ok {a : List Int} {x : Int} {σ : GS} {Post : DV → GS → Prop} (hl : a.length < 2 ^ 60) (h : Post (.bool (a.contains x)) σ) : GCall Tryz.prog F_skolemref03_Has [fints a, .int .i64 x] σ Post := by
  refine gc_skolemref03_Has ?_
  simp [G_skolemref03_Has, genv0, List.replicate]
  refine gfor a.length (fun i e σ' => σ' = σ ∧ a.contains x = (a.drop i).contains x ∧ e = mkEnv 18 [(0, fints a), (1, .int .i64 x), (5, .int .i64 i)]) _ ?_ ⟨rfl, by simp, rfl⟩ ?_
  · simp [mkEnv, List.replicate]
  rintro i _ _ hi ⟨rfl, hI, rfl⟩
  simp [mkEnv, List.replicate]
  by_cases hlt : i < a.length
  · obtain ⟨y, hy⟩ := nth_lt hlt
    rw [drop_get hy, List.contains_cons] at hI
    have es : IntKind.i64.wrap ((i : Int) + 1) = (i : Int) + 1 := by rw [wrap_small] <;> omega
    by_cases c : y = x
    · have c' : (x == y) = true := by simp [c]
      simp [hlt, hy, c]
      rw [hI, c'] at h; simpa using h
    · have c' : (x == y) = false := by simpa using fun e => c e.symm
      simp [hlt, hy, c, es]
      exact forK_go _ hlt (by simp [mkEnv, List.replicate]) ⟨rfl, by rw [hI, c']; simp, rfl⟩
  · have : i = a.length := by omega
    subst this
    simp
    rw [hI] at h; simpa using h
theorem r_single_ok {l : List Int} {σ : GS} {Post : DV → GS → Prop} (hl : l.length < 2 ^ 60) (h : Post (.bool (singleS [] l)) σ) : GCall Tryz.prog F_skolemref03_single [fints l] σ Post := by
  refine gc_skolemref03_single ?_
  simp [G_skolemref03_single, genv0, List.replicate]
  refine gfor l.length (fun i e σ' => σ' = σ ∧ singleS [] l = singleS (l.take i) (l.drop i) ∧ e = mkEnv 32 [(0, fints l), (3, .int .i64 i)]) _ ?_ ⟨rfl, by simp, rfl⟩ ?_
  · simp [mkEnv, List.replicate]
  rintro i _ _ hi ⟨rfl, hI, rfl⟩
  simp [mkEnv, List.replicate]
  by_cases hlt : i < l.length
  · obtain ⟨y, hy⟩ := nth_lt hlt
    have hy' := nth_get hy
    rw [drop_get hy', singleS] at hI
    have es : IntKind.i64.wrap ((i : Int) + 1) = (i : Int) + 1 := by rw [wrap_small] <;> omega
    have hsl : gpure (.slice 1 false true false) [fints l, .int .i64 i] = some (fints (l.take i)) := by
      simp only [gpure, gslice, if_true, gbm, Option.bind_some, gbh, gbl, gbound, List.length_map]
      rw [if_pos (by omega)]
      simp [List.map_take]
    by_cases h1 : 1 ≤ y
    rotate_left
    · have h1' : y < 1 := by omega
      simp [hlt, hy, h1']
      rw [hI] at h; simpa [isVar, h1] using h
    have h1' : ¬ y < 1 := by omega
    by_cases h2 : y ≤ 65536
    rotate_left
    · have h2' : 65536 < y := by omega
      simp [hlt, hy, h1', h2']
      rw [hI] at h; simpa [isVar, h1, h2] using h
    have h2' : ¬ 65536 < y := by omega
    simp [hlt, hy, h1', h2', hsl]
    refine r_Has_ok (by simp; omega) ?_
    by_cases c : (l.take i).contains y = true
    · rw [c]
      simp
      rw [hI, c] at h; simpa using h
    · have c' : (l.take i).contains y = false := by simpa using c
      rw [c']
      simp [es]
      exact forK_go _ hlt (by simp [mkEnv, List.replicate]) ⟨rfl, by rw [hI, c', take_get hy']; simp [isVar, h1, h2], rfl⟩
  · have : i = l.length := by omega
    subst this
    simp
    rw [hI] at h; simpa [singleS] using h
theorem r_Flat_ok {p : List Blk} {σ : GS} {Post : DV → GS → Prop} (hp : lensB p < 2 ^ 40) (h : Post (fints (flatB p)) σ) : GCall Tryz.prog F_skolemref03_Flat [fblks p] σ Post := by
  have hlb := lensB_flat p
  refine GCall.pure (r := fints (flatB p)) ?_ (by simp) h
  refine gc_skolemref03_Flat ?_
  simp [G_skolemref03_Flat, genv0, List.replicate]
  refine gfor p.length (fun i e σ' => Fr σ.length σ σ' ∧ ∃ s, Own σ.length 1 eint σ' s (flatB (p.take i)) ∧ e = mkEnv 19 [(0, fblks p), (3, s), (4, .int .i64 i)]) _ ?_ ⟨.rfl', .nils, by simpa using Own.nil, rfl⟩ ?_
  · simp [mkEnv, List.replicate]
  rintro i _ σ' hi ⟨hF, s, hO, rfl⟩
  simp [mkEnv, List.replicate]
  by_cases hlt : i < p.length
  · obtain ⟨b, hb⟩ := nth_lt hlt
    have hb' := nth_get hb
    have es : IntKind.i64.wrap ((i : Int) + 1) = (i : Int) + 1 := by rw [wrap_small] <;> omega
    have htk : flatB (p.take (i + 1)) = flatB (p.take i) ++ b.2 := by rw [take_get hb', flatB_append]; simp
    have hle : (flatB (p.take i)).length + b.2.length ≤ (flatB p).length := by
      have : flatB p = flatB (p.take (i + 1)) ++ flatB (p.drop (i + 1)) := by rw [← flatB_append, List.take_append_drop]
      rw [this, htk]; simp
    have hge := hF.len
    obtain ⟨s', σ2, q1, q2, q3, q4, q5, q6, q7⟩ := hO.append (by_ := 8) (x := fints b.2) (ys := b.2) (fun _ => rfl) (by simpa [flatMap_flatten] using gread_fsl (σ := σ') (sz := 1) (es := b.2.map eint)) (by simp [glen]) (by simp) hge (by omega) (by decide)
    simp [hlt, hb, q1, es]
    exact forK_go _ hlt (by simp [mkEnv, List.replicate]) ⟨hF.trans q3, s', by rw [htk]; exact q2, rfl⟩
  · have : i = p.length := by omega
    subst this
    rw [List.take_length] at hO
    simp
    exact ⟨hF, hO.rd (fun _ => rfl) fun i hi => .inl hi⟩
theorem altB_step {prev : Option Bool} {b : Blk} {p : List Blk} : altB prev (b :: p) = (!b.2.isEmpty && decide (prev ≠ some b.1) && altB (some b.1) p) := rfl
/-- The quantifier of the block before. -/
def prevB (p : List Blk) : Nat → Option Bool
  | 0 => none
  | i + 1 => (p[i]?).map (·.1)
theorem r_May_ok {p : List Blk} {σ : GS} {Post : DV → GS → Prop} (hp : lensB p < 2 ^ 40) (h : Post (.bool (mayB p)) σ) : GCall Tryz.prog F_skolemref03_May [fblks p] σ Post := by
  have hlb := lensB_flat p
  refine GCall.say (r := .bool (mayB p)) ?_ rfl h
  refine gc_skolemref03_May ?_
  simp [G_skolemref03_May, genv0, List.replicate]
  refine gfor p.length (fun i e σ' => σ' = σ ∧ altB none p = altB (prevB p i) (p.drop i) ∧ e = mkEnv 45 [(0, fblks p), (3, .int .i64 i)]) _ ?_ ⟨rfl, by simp [prevB], rfl⟩ ?_
  · simp [mkEnv, List.replicate]
  rintro i _ _ hi ⟨rfl, hI, rfl⟩
  simp [mkEnv, List.replicate]
  by_cases hlt : i < p.length
  · obtain ⟨b, hb⟩ := nth_lt hlt
    have hb' := nth_get hb
    rw [drop_get hb', altB_step] at hI
    have es : IntKind.i64.wrap ((i : Int) + 1) = (i : Int) + 1 := by rw [wrap_small] <;> omega
    by_cases h0 : b.2.length = 0
    · have h0' : b.2 = [] := List.length_eq_zero_iff.1 h0
      simp [hlt, hb, h0']
      simp [mayB, hI, h0']
      exact .rfl'
    have h0' : ¬ (b.2 = []) := fun e => h0 (by rw [e]; rfl)
    have h0'' : ¬ ((b.2.length : Int) = 0) := by omega
    cases i with
    | zero =>
      simp [hlt, hb, h0', h0'']
      exact forK_go _ hlt (by simp [mkEnv, List.replicate]) ⟨rfl, by simp [hI, prevB, hb', h0'], rfl⟩
    | succ i =>
      obtain ⟨c, hc⟩ := nth_lt (l := p) (i := i) (by omega)
      have hc' := nth_get hc
      have ew' : IntKind.i64.wrap (i : Int) = i := by rw [wrap_small] <;> omega
      have hge : (0 : Int) ≤ (i : Int) + 1 := by omega
      have hgt : (0 : Int) < (i : Int) + 1 := by omega
      have htn : ((i : Int) + 1).toNat = i + 1 := by omega
      have es2 : IntKind.i64.wrap ((i : Int) + 1 + 1) = (i : Int) + 1 + 1 := by rw [wrap_small] <;> omega
      by_cases he : c.1 = b.1
      · simp [hlt, hb, h0', h0'', hge, hgt, htn, ew', hc, he]
        simp [mayB, hI, prevB, hc', he]
        exact .rfl'
      · have he2 : (c.1 == b.1) = false := by simpa using he
        simp [hlt, hb, h0', h0'', hge, hgt, htn, ew', hc, he2, es2]
        exact forK_go _ hlt (by simp [mkEnv, List.replicate]) ⟨rfl, by simp [hI, prevB, hc', he, h0', hb'], rfl⟩
  · have : i = p.length := by omega
    subst this
    rw [List.drop_length] at hI
    have hI' : altB none p = true := hI
    simp
    refine r_Flat_ok hp ?_
    by_cases c : (flatB p).length ≤ 1024
    · have c' : ((flatB p).length : Int) ≤ 1024 := by omega
      simp [c']
      refine r_single_ok (by omega) ?_
      simp [mayB, hI', c]
      exact .rfl'
    · have c' : ¬ ((flatB p).length : Int) ≤ 1024 := by omega
      simp [c']
      simp [mayB, c]
      exact .rfl'
end Go.Gh
namespace Go.Gh
open Go.RowKit Go.Proofs
set_option linter.unusedVariables false
set_option linter.unusedSimpArgs false
set_option maxRecDepth 100000
theorem p_each_ok {p : List Blk} {σ : GS} {Post : DV → GS → Prop} (k : Post (.func F_prefix_each_1 [] [.fptr [fblks p]]) σ) : GCall Tryz.prog F_prefix_each [fblks p] σ Post := by
  refine GCall.pure (r := .func F_prefix_each_1 [] [.fptr [fblks p]]) ?_ (by have := closed_fblks p; simp [DV.closed, closeds] at this ⊢; exact this) k
  refine gc_prefix_each ?_
  simp [G_prefix_each, genv0, List.replicate]
  exact .func .nil (.cons (.ptr (id := σ.length) (off := 0) (ro := false) (cs := [fblks p]) (.inl (Nat.le_refl _)) (by simp) (.cons (.same _) .nil)) .nil)
theorem p_each1_ok {p : List Blk} {L : Nat} {σ : GS} {Post : DV → GS → Prop} (hp : lensB p < 2 ^ 40) (I : Nat → GS → Prop) (J : GS → Prop) (hI : ∀ n σ' o, I n σ' → I n (σ' ++ [o])) (h0 : I 0 σ)
    (hr : ∀ n i v σ', (prs 0 p)[n]? = some (i, v) → I n σ' → GRound Tryz.prog L [.int .i64 (i : Nat), .int .i64 v] σ' fun r σ'' => (r = .bool true ∧ I (n + 1) σ'') ∨ (r = .bool false ∧ J σ''))
    (k : ∀ σ', I (flatB p).length σ' → Post (.tuple []) σ') (kj : ∀ σ', J σ' → Post (.tuple []) σ') : GCall Tryz.prog F_prefix_each_1 [.yield L, .fptr [fblks p]] σ Post := by
  have hlb := lensB_flat p
  refine gc_prefix_each_1 ?_
  simp [G_prefix_each_1, genv0, List.replicate]
  refine gfor p.length (fun i e σ' => I (flatB (p.take i)).length σ' ∧ e = mkEnv 28 [(0, .yield L), (7, fblks p), (8, .int .i64 p.length), (9, .int .i64 i)]) _ ?_ ⟨by simpa using h0, rfl⟩ ?_
  · simp [mkEnv, List.replicate]
  rintro i _ σ1 hi ⟨hI1, rfl⟩
  simp [mkEnv, List.replicate]
  by_cases hlt : i < p.length
  rotate_left
  · have : i = p.length := by omega
    subst this
    rw [List.take_length] at hI1
    simp
    exact k _ hI1
  obtain ⟨b, hb⟩ := nth_lt hlt
  have hb' := nth_get hb
  have hbm := lensB_mem (List.mem_of_getElem? hb')
  have es : IntKind.i64.wrap ((i : Int) + 1) = (i : Int) + 1 := by rw [wrap_small] <;> omega
  simp [hlt, hb]
  refine gfor b.2.length (fun j e σ' => I ((flatB (p.take i)).length + j) σ' ∧ e = mkEnv 28 [(0, .yield L), (3, .int .i64 i), (7, fblks p), (8, .int .i64 p.length), (9, .int .i64 i), (15, fints b.2), (16, .int .i64 b.2.length), (17, .int .i64 j)]) _ ?_ ⟨hI _ _ _ hI1, rfl⟩ ?_
  · simp [mkEnv, List.replicate]
  rintro j _ σ2 hj ⟨hI2, rfl⟩
  simp [mkEnv, List.replicate]
  by_cases hjl : j < b.2.length
  · obtain ⟨v, hv⟩ := nth_lt hjl
    have hv' := nth_get hv
    have es2 : IntKind.i64.wrap ((j : Int) + 1) = (j : Int) + 1 := by rw [wrap_small] <;> omega
    simp [hjl, hv]
    refine (hr _ i v σ2 (prs_at hb' hv') hI2).mono ?_
    rintro r σ3 (⟨rfl, h3⟩ | ⟨rfl, h3⟩)
    · simp [es2]
      exact forK_go _ hjl (by simp [mkEnv, List.replicate]) ⟨by rw [← Nat.add_assoc]; exact h3, rfl⟩
    · simp
      exact kj _ h3
  · have : j = b.2.length := by omega
    subst this
    simp [es]
    refine forK_go _ hlt (by simp [mkEnv, List.replicate]) ⟨?_, rfl⟩
    rw [flatB_take hb', List.length_append]; exact hI2
theorem grange_ret {id : Nat} {env e0 : Env} {ps : List Tmp} {a b : Code} {Q : Exit → Env → GS → Prop} {σ : GS} (h : σ[id]? = some (.loop ⟨e0, ps, a, b, .done, some .ret⟩)) (k : Q .ret env (σ.set id (.loop ⟨e0, ps, a, b, .exhausted, some .ret⟩))) : grange id env Q σ := ⟨_, h, by simp, k⟩
theorem roundK_ret {id : Nat} {Post : Bx (DV → GS → Prop)} {env e0 : Env} {ps : List Tmp} {a b : Code} {σ : GS} (h : σ[id]? = some (.loop ⟨e0, ps, a, b, .busy, none⟩)) (k : Post.val (.bool false) (σ.set id (.loop ⟨e0, ps, a, b, .done, some .ret⟩))) : @roundK id Post .ret env σ := ⟨_, h, k⟩
end Go.Gh
namespace Go.Gh
open Go.RowKit Go.Proofs
set_option linter.unusedVariables false
set_option linter.unusedSimpArgs false
set_option maxRecDepth 100000
theorem count_round {σ : GS} {env : Env} {M : GObj} {τ : GS} {i : Nat} {v : Int} {E : List (Int × DV)} {Post : DV → GS → Prop}
    (hlen : env.length = 27) (h2 : env[2]? = some (.ptr σ.length 0)) (h3 : env[3]? = some (.ptr (σ.length + 1) 0)) (h4 : env[4]? = some (.ptr (σ.length + 3) 0))
    (hM : ∀ τ, MpO kint (σ ++ (.row false [.int .i64 0] :: .row false [.bool false] :: M :: τ)) (σ.length + 2) E) (hE : ∀ k u, kget k E = some u → u = .bool true)
    (k1 : isVar v = true → kget v E = none → ∀ M' τ', (∀ τ, MpO kint (σ ++ (.row false [.int .i64 0] :: .row false [.bool false] :: M' :: τ)) (σ.length + 2) (kset v (.bool true) E)) → Post (.bool true) (σ ++ (.row false [.int .i64 0] :: .row false [.bool false] :: M' :: .row false [.map (σ.length + 2)] :: .loop (lgR env [10, 11] (rngA Tryz.f38 0) (rngB Tryz.f38 0)) :: τ')))
    (k0 : (isVar v = true → (kget v E).isSome = true) → ∀ τ', Post (.bool false) (σ ++ (.row false [.int .i64 0] :: .row false [.bool false] :: M :: .row false [.map (σ.length + 2)] :: .loop ⟨env, [10, 11], rngA Tryz.f38 0, rngB Tryz.f38 0, .done, some .ret⟩ :: τ'))) :
    GRound Tryz.prog (σ.length + 4) [.int .i64 i, .int .i64 v] (σ ++ (.row false [.int .i64 0] :: .row false [.bool false] :: M :: .row false [.map (σ.length + 2)] :: .loop (lgR env [10, 11] (rngA Tryz.f38 0) (rngB Tryz.f38 0)) :: τ)) Post := by
  refine round_of (env := env) (ps := [10, 11]) (a := rngA Tryz.f38 0) (b := rngB Tryz.f38 0) seatfollows (by simp) ca_prefix_count_0 cb_prefix_count_0 rfl ?_
  have h2' : ∀ h, env[2]'h = .ptr σ.length 0 := fun h => by rw [List.getElem?_eq_getElem h] at h2; exact Option.some.inj h2
  have h3' : ∀ h, env[3]'h = .ptr (σ.length + 1) 0 := fun h => by rw [List.getElem?_eq_getElem h] at h3; exact Option.some.inj h3
  have h4' : ∀ h, env[4]'h = .ptr (σ.length + 3) 0 := fun h => by rw [List.getElem?_eq_getElem h] at h4; exact Option.some.inj h4
  have hlk : ∀ τ, gload (.lookup (.int .i64) (.bool false) false) [.map (σ.length + 2), .int .i64 v] (σ ++ (.row false [.int .i64 0] :: .row false [.bool false] :: M :: τ)) = some (.bool (kget v E).isSome) := fun τ => by
    rw [(hM τ).lookup (kt := .int .i64) v (.bool false) false]
    cases hk : kget v E with
    | none => rfl
    | some u => rw [hE _ _ hk]; rfl
  simp [GA_prefix_count_0, GB_prefix_count_0, putAll, List.getElem?_set, hlen, h2', h3', h4', lgR]
  by_cases c1 : 1 ≤ v
  rotate_left
  · have c1' : v < 1 := by omega
    simp [c1', List.getElem?_set, hlen, h2', h3', h4']
    refine roundK_ret (e0 := env) (ps := [10, 11]) (a := rngA Tryz.f38 0) (b := rngB Tryz.f38 0) (by simp) ?_
    rw [set_tail]
    exact k0 (fun h => by simp [isVar, c1] at h) _
  have c1' : ¬ v < 1 := by omega
  by_cases c2 : v ≤ 65536
  rotate_left
  · have c2' : 65536 < v := by omega
    simp [c1', c2', List.getElem?_set, hlen, h2', h3', h4']
    refine roundK_ret (e0 := env) (ps := [10, 11]) (a := rngA Tryz.f38 0) (b := rngB Tryz.f38 0) (by simp) ?_
    rw [set_tail]
    exact k0 (fun h => by simp [isVar, c2] at h) _
  have c2' : ¬ 65536 < v := by omega
  simp [c1', c2', List.getElem?_set, hlen, h2', h3', h4', hlk]
  cases hk : kget v E with
  | some u =>
    simp [List.getElem?_set, hlen, h2', h3', h4']
    refine roundK_ret (e0 := env) (ps := [10, 11]) (a := rngA Tryz.f38 0) (b := rngB Tryz.f38 0) (by simp) ?_
    rw [set_tail]
    exact k0 (fun _ => by simp [hk]) _
  | none =>
    obtain ⟨o, q1, q2⟩ := (hM (.row false [.map (σ.length + 2)] :: .loop ⟨env, [10, 11], rngA Tryz.f38 0, rngB Tryz.f38 0, .busy, none⟩ :: τ)).set (kt := .int .i64) v (.bool true)
    rw [set_tail] at q1 q2
    simp [List.getElem?_set, hlen, h2', h3', h4', q1]
    refine roundK_normal (e0 := env) (ps := [10, 11]) (a := rngA Tryz.f38 0) (b := rngB Tryz.f38 0) (by simp) ?_
    rw [set_tail]
    exact k1 (by simp [isVar, c1, c2]) hk _ _ fun τ1 => q2.fit (by simp)
/-- A set of numbers as a map to true. -/
def setE (l : List Int) : List (Int × DV) := l.map fun v => (v, .bool true)
theorem setE_keys (l : List Int) : (setE l).map (·.1) = l := by simp [setE, Function.comp_def]
theorem setE_true {l : List Int} (k : Int) (u : DV) (h : kget k (setE l) = some u) : u = .bool true := by
  obtain ⟨v, _, he⟩ := List.mem_map.1 (kget_mem h)
  cases he; rfl
theorem setE_some {l : List Int} {k : Int} : (kget k (setE l)).isSome = l.contains k := by
  cases h : kget k (setE l) with
  | none =>
    have := kget_none.1 h
    rw [setE_keys] at this
    simp [this]
  | some u =>
    have : k ∈ (setE l).map (·.1) := List.mem_map.2 ⟨_, kget_mem h, rfl⟩
    rw [setE_keys] at this
    simp [this]
theorem setE_push {l : List Int} {v : Int} (h : kget v (setE l) = none) : kset v (.bool true) (setE l) = setE (l ++ [v]) := by
  rw [kset_new (kget_none.1 h)]; simp [setE]
theorem count_walk {p : List Blk} {σ : GS} {env : Env} (hp : lensB p < 2 ^ 40) (hlen : env.length = 27) (h2 : env[2]? = some (.ptr σ.length 0)) (h3 : env[3]? = some (.ptr (σ.length + 1) 0)) (h4 : env[4]? = some (.ptr (σ.length + 3) 0)) {Q : Exit → Env → GS → Prop}
    (kN : singleS [] (flatB p) = true → ∀ M o τ, (∀ τ, MpO kint (σ ++ (.row false [.int .i64 0] :: .row false [.bool false] :: M :: τ)) (σ.length + 2) (setE (flatB p))) → Q .normal env (σ ++ (.row false [.int .i64 0] :: .row false [.bool false] :: M :: .row false [.map (σ.length + 2)] :: o :: τ)))
    (kR : singleS [] (flatB p) = false → ∀ M o τ, Q .ret env (σ ++ (.row false [.int .i64 0] :: .row false [.bool false] :: M :: .row false [.map (σ.length + 2)] :: o :: τ))) :
    GCall Tryz.prog F_prefix_each_1 [.yield (σ.length + 4), .fptr [fblks p]] (σ ++ [.row false [.int .i64 0], .row false [.bool false], .mp [] ([], 0), .row false [.map (σ.length + 2)], .loop (lgR env [10, 11] (rngA Tryz.f38 0) (rngB Tryz.f38 0))]) fun _ σ' => grange (σ.length + 4) env Q σ' := by
  refine p_each1_ok hp (fun n σ' => singleS [] (flatB p) = singleS ((flatB p).take n) ((flatB p).drop n) ∧ ∃ M τ, σ' = σ ++ (.row false [.int .i64 0] :: .row false [.bool false] :: M :: .row false [.map (σ.length + 2)] :: .loop (lgR env [10, 11] (rngA Tryz.f38 0) (rngB Tryz.f38 0)) :: τ) ∧ ∀ τ, MpO kint (σ ++ (.row false [.int .i64 0] :: .row false [.bool false] :: M :: τ)) (σ.length + 2) (setE ((flatB p).take n)))
    (fun σ' => singleS [] (flatB p) = false ∧ ∃ M τ, σ' = σ ++ (.row false [.int .i64 0] :: .row false [.bool false] :: M :: .row false [.map (σ.length + 2)] :: .loop ⟨env, [10, 11], rngA Tryz.f38 0, rngB Tryz.f38 0, .done, some .ret⟩ :: τ)) ?_ ?_ ?_ ?_ ?_
  · rintro n _ o ⟨h, M, τ, rfl, hM⟩
    exact ⟨h, M, τ ++ [o], by simp, hM⟩
  · refine ⟨by simp, _, [], rfl, fun τ => ?_⟩
    exact ⟨by simp [setE], ([], 0), ⟨by simp [setE], by simp, by simp⟩, by simp [kenc, setE]⟩
  · rintro n i v _ hn ⟨h, M, τ, rfl, hM⟩
    have hv : (flatB p)[n]? = some v := by
      have := congrArg (fun o => o.map (·.2)) hn
      simpa [← List.getElem?_map, prs_snd] using this
    rw [drop_get hv, singleS] at h
    refine count_round hlen h2 h3 h4 hM (fun k u => setE_true k u) (fun c1 c2 M' τ' hM' => .inl ⟨rfl, ?_, M', τ', rfl, ?_⟩) fun c τ' => .inr ⟨rfl, ?_, M, τ', rfl⟩
    · have : ((flatB p).take n).contains v = false := by rw [← setE_some, c2]; rfl
      rw [h, c1, this, take_get hv]; simp
    · rw [setE_push c2, ← take_get hv] at hM'; exact hM'
    · rw [h]
      cases hc : isVar v with
      | false => rfl
      | true =>
        have := c hc
        rw [setE_some] at this
        rw [this]; rfl
  · rintro _ ⟨h, M, τ, rfl, hM⟩
    rw [List.take_length] at hM
    rw [List.drop_length, singleS] at h
    refine grange_normal (e0 := env) (ps := [10, 11]) (a := rngA Tryz.f38 0) (b := rngB Tryz.f38 0) (by simp) ?_
    rw [set_tail]
    exact kN h _ _ _ hM
  · rintro _ ⟨h, M, τ, rfl⟩
    refine grange_ret (e0 := env) (ps := [10, 11]) (a := rngA Tryz.f38 0) (b := rngB Tryz.f38 0) (by simp) ?_
    rw [set_tail]
    exact kR h _ _ _
theorem p_count_ok {p : List Blk} {σ : GS} {Post : DV → GS → Prop} (hp : lensB p < 2 ^ 40) (h : Post (.tuple [.int .i64 (if singleS [] (flatB p) = true then (flatB p).length else 0), .bool (singleS [] (flatB p))]) σ) : GCall Tryz.prog F_prefix_count [fblks p] σ Post := by
  refine GCall.say (r := .tuple [.int .i64 (if singleS [] (flatB p) = true then (flatB p).length else 0), .bool (singleS [] (flatB p))]) ?_ (by simp) h
  refine gc_prefix_count ?_
  simp [G_prefix_count, genv0, List.replicate]
  refine p_each_ok ?_
  simp
  refine rangeB_intro ?_
  simp
  refine count_walk hp (by simp) (by simp) (by simp) (by simp) (fun hs M o τ hM => ?_) (fun hs M o τ => ?_)
  · have hml : gload .mlen [.map (σ.length + 2)] (σ ++ (.row false [.int .i64 0] :: .row false [.bool false] :: M :: .row false [.map (σ.length + 2)] :: o :: τ)) = some (.int .i64 (flatB p).length) := by
      rw [(hM _).mlen]; simp [setE]
    simp [hml, hs]
  · simp [hs]
end Go.Gh
namespace Go.Gh
open Go.RowKit Go.Proofs
set_option linter.unusedVariables false
set_option linter.unusedSimpArgs false
set_option maxRecDepth 100000
theorem p_May_ok {p : List Blk} {σ : GS} {Post : DV → GS → Prop} (hp : lensB p < 2 ^ 40) (h : Post (.bool (mayB p)) σ) : GCall Tryz.prog F_prefix_May [fblks p] σ Post := by
  have hlb := lensB_flat p
  refine GCall.say (r := .bool (mayB p)) ?_ rfl h
  refine gc_prefix_May ?_
  simp [G_prefix_May, genv0, List.replicate]
  refine gfor p.length (fun i e σ' => Fr σ.length σ σ' ∧ altB none p = altB (prevB p i) (p.drop i) ∧ e = mkEnv 44 [(0, fblks p), (7, fblks p), (8, .int .i64 p.length), (9, .int .i64 i)]) _ ?_ ⟨.rfl', by simp [prevB], rfl⟩ ?_
  · simp [mkEnv, List.replicate]
  rintro i _ σ1 hi ⟨hF, hI, rfl⟩
  simp [mkEnv, List.replicate]
  by_cases hlt : i < p.length
  · obtain ⟨b, hb⟩ := nth_lt hlt
    have hb' := nth_get hb
    rw [drop_get hb', altB_step] at hI
    have es : IntKind.i64.wrap ((i : Int) + 1) = (i : Int) + 1 := by rw [wrap_small] <;> omega
    by_cases h0 : b.2.length = 0
    · have h0' : b.2 = [] := List.length_eq_zero_iff.1 h0
      simp [hlt, hb, h0']
      simp [mayB, hI, h0']
      exact hF.app _
    have h0' : ¬ (b.2 = []) := fun e => h0 (by rw [e]; rfl)
    have h0'' : ¬ ((b.2.length : Int) = 0) := by omega
    cases i with
    | zero =>
      simp [hlt, hb, h0', h0'']
      exact forK_go _ hlt (by simp [mkEnv, List.replicate]) ⟨hF.app _, by simp [hI, prevB, hb', h0'], rfl⟩
    | succ i =>
      obtain ⟨c, hc⟩ := nth_lt (l := p) (i := i) (by omega)
      have hc' := nth_get hc
      have ew' : IntKind.i64.wrap (i : Int) = i := by rw [wrap_small] <;> omega
      have hge : (0 : Int) ≤ (i : Int) + 1 := by omega
      have hgt : (0 : Int) < (i : Int) + 1 := by omega
      have htn : ((i : Int) + 1).toNat = i + 1 := by omega
      have es2 : IntKind.i64.wrap ((i : Int) + 1 + 1) = (i : Int) + 1 + 1 := by rw [wrap_small] <;> omega
      by_cases he : c.1 = b.1
      · simp [hlt, hb, h0', h0'', hge, hgt, htn, ew', hc, he]
        simp [mayB, hI, prevB, hc', he]
        exact hF.app _
      · have he2 : (c.1 == b.1) = false := by simpa using he
        simp [hlt, hb, h0', h0'', hge, hgt, htn, ew', hc, he2, es2]
        exact forK_go _ hlt (by simp [mkEnv, List.replicate]) ⟨hF.app _, by simp [hI, prevB, hc', he, h0', hb'], rfl⟩
  · have : i = p.length := by omega
    subst this
    rw [List.drop_length] at hI
    have hI' : altB none p = true := hI
    simp
    refine p_count_ok hp ?_
    cases hs : singleS [] (flatB p) with
    | false =>
      simp
      simp [mayB, hs]
      exact hF
    | true =>
      by_cases c : (flatB p).length ≤ 1024
      · have c' : ((flatB p).length : Int) ≤ 1024 := by omega
        simp [c']
        simp [mayB, hI', c, hs]
        exact hF
      · have c' : ¬ ((flatB p).length : Int) ≤ 1024 := by omega
        simp [c']
        simp [mayB, c]
        exact hF
theorem p_abs_ok {x : Int} {σ : GS} {Post : DV → GS → Prop} (h : Post (.int .i64 (absW x)) σ) : GCall Tryz.prog F_prefix_abs [.int .i64 x] σ Post := by
  refine gc_prefix_abs ?_
  simp [G_prefix_abs, genv0, List.replicate]
  exact h
theorem r_Abs_ok {x : Int} {σ : GS} {Post : DV → GS → Prop} (h : Post (.int .i64 (if x < 0 then IntKind.i64.wrap (-x) else x)) σ) : GCall Tryz.prog F_skolemref03_Abs [.int .i64 x] σ Post := by
  refine gc_skolemref03_Abs ?_
  by_cases c : x < 0
  · simp [G_skolemref03_Abs, genv0, List.replicate, c]
    simpa [c] using h
  · simp [G_skolemref03_Abs, genv0, List.replicate, c]
    simpa [c] using h
end Go.Gh
namespace Go.Gh
open Go.RowKit Go.Proofs
set_option linter.unusedVariables false
set_option linter.unusedSimpArgs false
set_option maxRecDepth 100000
end Go.Gh
namespace Go.Gh
open Go.RowKit Go.Proofs
set_option linter.unusedVariables false
set_option linter.unusedSimpArgs false
set_option maxRecDepth 100000
/-- Where a block stands, by its index. -/
def plD (p : List Blk) (k : Nat) : DV := placeV (k, ((p[k]?).map (·.1)).getD false)
theorem place_round {p : List Blk} {σ : GS} {env : Env} {M : GObj} {τ : GS} {i : Nat} {v : Int} {b : Blk} {E : List (Int × DV)} {Post : DV → GS → Prop} (hp : lensB p < 2 ^ 40) (hb : p[i]? = some b)
    (hlen : env.length = 31) (h1 : env[1]? = some (.ptr σ.length 0)) (h3 : env[3]? = some (.ptr (σ.length + 2) 0))
    (hM : ∀ τ, MpO kint (σ ++ (.row false [fblks p] :: M :: τ)) (σ.length + 1) E) (hE : ∀ k u, kget k E = some u → ∃ x, u = placeV x)
    (k1 : ∀ M' τ', (∀ τ, MpO kint (σ ++ (.row false [fblks p] :: M' :: τ)) (σ.length + 1) (plStep (plD p) E (i, v))) → Post (.bool true) (σ ++ (.row false [fblks p] :: M' :: .row false [.map (σ.length + 1)] :: .loop (lgR env [11, 12] (rngA Tryz.f43 0) (rngB Tryz.f43 0)) :: τ'))) :
    GRound Tryz.prog (σ.length + 3) [.int .i64 i, .int .i64 v] (σ ++ (.row false [fblks p] :: M :: .row false [.map (σ.length + 1)] :: .loop (lgR env [11, 12] (rngA Tryz.f43 0) (rngB Tryz.f43 0)) :: τ)) Post := by
  refine round_of (env := env) (ps := [11, 12]) (a := rngA Tryz.f43 0) (b := rngB Tryz.f43 0) seatfollows (by simp) ca_prefix_places_0 cb_prefix_places_0 rfl ?_
  have h1' : ∀ h, env[1]'h = .ptr σ.length 0 := fun h => by rw [List.getElem?_eq_getElem h] at h1; exact Option.some.inj h1
  have h3' : ∀ h, env[3]'h = .ptr (σ.length + 2) 0 := fun h => by rw [List.getElem?_eq_getElem h] at h3; exact Option.some.inj h3
  have hb2 : nth p i = some b := hb
  have hlk : ∀ τ, gload (.lookup (.int .i64) (.agg [.int .i64 0, .bool false]) true) [.map (σ.length + 1), .int .i64 v] (σ ++ (.row false [fblks p] :: M :: τ)) = some (match kget v E with | some u => .tuple [u, .bool true] | none => .tuple [.agg [.int .i64 0, .bool false], .bool false]) := fun τ => by
    rw [(hM τ).lookup (kt := .int .i64) v _ true]
    cases hk : kget v E <;> rfl
  simp [GA_prefix_places_0, GB_prefix_places_0, putAll, List.getElem?_set, hlen, h1', h3', lgR, hlk]
  cases hk : kget v E with
  | some u =>
    obtain ⟨x, rfl⟩ := hE _ _ hk
    simp [placeV, List.getElem?_set, hlen, h1', h3']
    refine roundK_normal (e0 := env) (ps := [11, 12]) (a := rngA Tryz.f43 0) (b := rngB Tryz.f43 0) (by simp) ?_
    rw [set_tail]
    refine k1 _ _ fun τ1 => ?_
    unfold plStep; rw [if_pos (by simp [hk])]
    exact hM τ1
  | none =>
    simp [List.getElem?_set, hlen, h1', h3', hb2, fill_flat2]
    obtain ⟨o, q1, q2⟩ := (hM (.row false [.map (σ.length + 1)] :: .loop ⟨env, [11, 12], rngA Tryz.f43 0, rngB Tryz.f43 0, .busy, none⟩ :: (τ ++ [.row false [.int .i64 0, .bool false]]))).set (kt := .int .i64) v (plD p i)
    rw [set_tail] at q1 q2
    have hd : plD p i = .agg [.int .i64 i, .bool b.1] := by simp [plD, placeV, hb]
    rw [hd] at q1
    simp at q1
    simp [q1]
    refine roundK_normal (e0 := env) (ps := [11, 12]) (a := rngA Tryz.f43 0) (b := rngB Tryz.f43 0) (by simp) ?_
    rw [set_tail]
    refine k1 _ _ fun τ1 => ?_
    unfold plStep; rw [if_neg (by simp [hk])]
    rw [kset_new (kget_none.1 hk)] at q2
    exact q2.fit (by simp)
theorem plE_place {p : List Blk} (l : List (Nat × Int)) : ∀ E, (∀ (k : Int) u, kget k E = some u → ∃ x, u = placeV x) → ∀ (k : Int) u, kget k (l.foldl (plStep (plD p)) E) = some u → ∃ x, u = placeV x := by
  intro E hE k u h
  rw [plE_get] at h
  cases hk : kget k E with
  | some w => rw [hk] at h; cases h; exact hE _ _ hk
  | none =>
    rw [hk] at h
    simp only [Option.map_eq_some_iff] at h
    obtain ⟨x, _, rfl⟩ := h
    exact ⟨_, rfl⟩
theorem plE_final (p : List Blk) : PlaceE p (plE (plD p) (prs 0 p)) := by
  intro v
  unfold plE
  rw [plE_get]
  simp only [kget]
  refine findO_prs (plD p) v p 0 fun j b hj => ?_
  simp [plD, hj]
theorem place_walk {p : List Blk} {σ : GS} {env : Env} (hp : lensB p < 2 ^ 40) (hlen : env.length = 31) (h1 : env[1]? = some (.ptr σ.length 0)) (h3 : env[3]? = some (.ptr (σ.length + 2) 0)) {Q : Exit → Env → GS → Prop}
    (kN : ∀ M o τ, (∀ τ, MpO kint (σ ++ (.row false [fblks p] :: M :: τ)) (σ.length + 1) (plE (plD p) (prs 0 p))) → Q .normal env (σ ++ (.row false [fblks p] :: M :: .row false [.map (σ.length + 1)] :: o :: τ))) :
    GCall Tryz.prog F_prefix_each_1 [.yield (σ.length + 3), .fptr [fblks p]] (σ ++ [.row false [fblks p], .mp [] ([], 0), .row false [.map (σ.length + 1)], .loop (lgR env [11, 12] (rngA Tryz.f43 0) (rngB Tryz.f43 0))]) fun _ σ' => grange (σ.length + 3) env Q σ' := by
  refine p_each1_ok hp (fun n σ' => ∃ M τ, σ' = σ ++ (.row false [fblks p] :: M :: .row false [.map (σ.length + 1)] :: .loop (lgR env [11, 12] (rngA Tryz.f43 0) (rngB Tryz.f43 0)) :: τ) ∧ ∀ τ, MpO kint (σ ++ (.row false [fblks p] :: M :: τ)) (σ.length + 1) (plE (plD p) ((prs 0 p).take n)))
    (fun σ' => False) ?_ ?_ ?_ ?_ ?_
  · rintro n _ o ⟨M, τ, rfl, hM⟩
    exact ⟨M, τ ++ [o], by simp, hM⟩
  · refine ⟨_, [], rfl, fun τ => ?_⟩
    exact ⟨by simp [plE], ([], 0), ⟨by simp [plE], by simp, by simp⟩, by simp [kenc, plE]⟩
  · rintro n i v _ hn ⟨M, τ, rfl, hM⟩
    obtain ⟨b, _, hb, _⟩ := prs_mem (List.mem_of_getElem? hn)
    refine place_round hp (by simpa using hb) hlen h1 h3 hM (plE_place _ _ fun k u h => by simp [kget] at h) fun M' τ' hM' => .inl ⟨rfl, M', τ', rfl, fun τ1 => ?_⟩
    have := hM' τ1
    unfold plE at this ⊢
    rw [take_get hn, List.foldl_append]
    exact this
  · rintro _ ⟨M, τ, rfl, hM⟩
    have hM' : ∀ τ, MpO kint (σ ++ (.row false [fblks p] :: M :: τ)) (σ.length + 1) (plE (plD p) (prs 0 p)) := fun τ => by
      have := hM τ
      rw [List.take_of_length_le (by rw [prs_len]; omega)] at this
      exact this
    refine grange_normal (e0 := env) (ps := [11, 12]) (a := rngA Tryz.f43 0) (b := rngB Tryz.f43 0) (by simp) ?_
    rw [set_tail]
    exact kN _ _ _ hM'
  · rintro _ h
    exact h.elim
/-- The places of numbers: a map of the call's own. -/
theorem p_places_ok {p : List Blk} {σ : GS} {Post : DV → GS → Prop} (hp : lensB p < 2 ^ 40) (k : ∀ E σ', PlaceE p E → E = plE (plD p) (prs 0 p) → MpO kint σ' (σ.length + 1) E → Fr σ.length σ σ' → Post (.map (σ.length + 1)) σ') : GCall Tryz.prog F_prefix_places [fblks p] σ Post := by
  refine gc_prefix_places ?_
  simp [G_prefix_places, genv0, List.replicate]
  refine p_each_ok ?_
  simp
  refine rangeB_intro ?_
  simp
  refine place_walk hp (by simp) (by simp) (by simp) fun M o τ hM => ?_
  simp
  exact k _ _ (plE_final p) rfl (hM _) (Fr.rfl'.app _)
end Go.Gh
namespace Go.Gh
open Go.RowKit Go.Proofs
set_option linter.unusedVariables false
set_option linter.unusedSimpArgs false
set_option maxRecDepth 100000
theorem place_lookup {p : List Blk} {E : List (Int × DV)} {σ : GS} {id : Nat} (hE : PlaceE p E) (hM : MpO kint σ id E) (v : Int) : gload (.lookup (.int .i64) (.agg [.int .i64 0, .bool false]) true) [.map id, .int .i64 v] σ = some (match findO 0 p v with | some x => .tuple [placeV x, .bool true] | none => .tuple [.agg [.int .i64 0, .bool false], .bool false]) := by
  rw [hM.lookup (kt := .int .i64) v _ true, hE v]
  cases findO 0 p v <;> rfl
end Go.Gh
namespace Go.Gh
open Go.RowKit Go.Proofs
set_option linter.unusedVariables false
set_option linter.unusedSimpArgs false
set_option maxRecDepth 100000
end Go.Gh
namespace Go.Gh
open Go.RowKit Go.Proofs
set_option linter.unusedVariables false
set_option linter.unusedSimpArgs false
set_option maxRecDepth 100000
theorem absS {x : Int} (h : litOk x = true) : (if x < 0 then IntKind.i64.wrap (-x) else x) = absW x := by
  simp only [litOk, Bool.and_eq_true, decide_eq_true_eq] at h
  exact absW_eq (by omega)
theorem r_Normal_ok {l : List Int} {σ : GS} {Post : DV → GS → Prop} (hl : l.length < 2 ^ 50) (h : Post (.bool (nrmS 0 l)) σ) : GCall Tryz.prog F_skolemref03_Normal [fints l] σ Post := by
  refine gc_skolemref03_Normal ?_
  simp [G_skolemref03_Normal, genv0, List.replicate]
  refine gfor l.length (fun i e σ' => σ' = σ ∧ (∃ last, nrmS 0 l = nrmS last (l.drop i) ∧ (i = 0 → last = 0) ∧ ∀ j, j + 1 = i → ∃ y, l[j]? = some y ∧ last = absW y ∧ litOk y = true) ∧ e = mkEnv 47 [(0, fints l), (3, .int .i64 i)]) _ ?_ ⟨rfl, ⟨0, by simp, fun _ => rfl, fun j h => by omega⟩, rfl⟩ ?_
  · simp [mkEnv, List.replicate]
  rintro i _ σ hi ⟨rfl, ⟨last, hI, hl0, hl1⟩, rfl⟩
  simp [mkEnv, List.replicate]
  by_cases hlt : i < l.length
  · obtain ⟨y, hy⟩ := nth_lt hlt
    have hy' := nth_get hy
    unfold nrmS at hI
    rw [drop_get hy', nrmG] at hI
    have es : IntKind.i64.wrap ((i : Int) + 1) = (i : Int) + 1 := by rw [wrap_small] <;> omega
    by_cases a1 : y = 0
    · have hn : nrmS 0 l = false := by unfold nrmS; rw [hI]; simp [litOk, a1]
      rw [hn] at h
      simp [hlt, hy, a1]
      exact h
    by_cases a2 : y < -65536
    · have hn : nrmS 0 l = false := by unfold nrmS; rw [hI]; simp [litOk, show ¬ (-65536 ≤ y) by omega]
      rw [hn] at h
      simp [hlt, hy, a1, a2]
      exact h
    by_cases a3 : 65536 < y
    · have hn : nrmS 0 l = false := by unfold nrmS; rw [hI]; simp [litOk, show ¬ (y ≤ 65536) by omega]
      rw [hn] at h
      simp [hlt, hy, a1, a2, a3]
      exact h
    have hok : litOk y = true := by simp [litOk, a1]; omega
    have hpos := (litOk_abs hok).2
    simp [hlt, hy, a1, a2, a3]
    cases i with
    | zero =>
      have := hl0 rfl
      subst this
      simp [es]
      refine forK_go _ hlt (by simp [mkEnv, List.replicate]) ⟨rfl, ⟨absW y, by unfold nrmS; rw [hI]; simp [hok, hpos], fun e => by omega, fun j hj => ?_⟩, rfl⟩
      have : j = 0 := by omega
      subst this; exact ⟨y, hy', rfl, hok⟩
    | succ i =>
      obtain ⟨z, hz, hlz, hzk⟩ := hl1 i rfl
      have hz' : nth l i = some z := hz
      have hge : (0 : Int) ≤ (i : Int) + 1 := by omega
      have hgt : (0 : Int) < (i : Int) + 1 := by omega
      have htn : ((i : Int) + 1).toNat = i + 1 := by omega
      have ew' : IntKind.i64.wrap (i : Int) = i := by rw [wrap_small] <;> omega
      have es2 : IntKind.i64.wrap ((i : Int) + 1 + 1) = (i : Int) + 1 + 1 := by rw [wrap_small] <;> omega
      simp [hge, hgt, htn, hy, ew', hz']
      refine r_Abs_ok ?_
      rw [absS hzk, ← hlz]
      simp [hge, htn, hy, ew', hz']
      refine r_Abs_ok ?_
      rw [absS hok]
      by_cases h4 : absW y ≤ last
      · have hn : nrmS 0 l = false := by unfold nrmS; rw [hI]; simp [show ¬ (last < absW y) by omega]
        rw [hn] at h
        simp [h4]
        exact h
      · simp [h4, es2]
        refine forK_go _ hlt (by simp [mkEnv, List.replicate]) ⟨rfl, ⟨absW y, by unfold nrmS; rw [hI]; simp [hok, show last < absW y by omega], fun e => by omega, fun j hj => ?_⟩, rfl⟩
        have : j = i + 1 := by omega
        subst this; exact ⟨y, hy', rfl, hok⟩
  · have : i = l.length := by omega
    subst this
    rw [List.drop_length] at hI
    have hn : nrmS 0 l = true := hI
    rw [hn] at h
    simp
    exact h
theorem r_Cnf_ok {l : List (List Int)} {σ : GS} {Post : DV → GS → Prop} (hl : lensC l < 2 ^ 40) (h : Post (.bool (cnfB l)) σ) : GCall Tryz.prog F_skolemref03_Cnf [fcls l] σ Post := by
  have hll := sumL_lens l
  refine gc_skolemref03_Cnf ?_
  simp [G_skolemref03_Cnf, genv0, List.replicate]
  refine gfor l.length (fun i e σ' => σ' = σ ∧ l.all (nrmS 0) = (l.drop i).all (nrmS 0) ∧ e = mkEnv 31 [(0, fcls l), (3, .int .i64 (sumL (l.take i))), (4, .int .i64 i)]) _ ?_ ⟨rfl, by simp, rfl⟩ ?_
  · simp [mkEnv, List.replicate, sumL]
  rintro i _ σ hi ⟨rfl, hI, rfl⟩
  simp [mkEnv, List.replicate]
  by_cases hlt : i < l.length
  · obtain ⟨c, hc⟩ := nth_lt hlt
    have hc' := nth_get hc
    have hcl := lensC_mem (List.mem_of_getElem? hc')
    have hsp := sumL_push hc'
    have hst := sumL_take l (i + 1)
    rw [drop_get hc', List.all_cons] at hI
    have es : IntKind.i64.wrap ((i : Int) + 1) = (i : Int) + 1 := by rw [wrap_small] <;> omega
    have es2 : IntKind.i64.wrap ((sumL (l.take i) : Int) + c.length) = (sumL (l.take (i + 1)) : Int) := by rw [hsp, wrap_small] <;> omega
    simp [hlt, hc, es2]
    refine r_Normal_ok (by omega) ?_
    cases hn : nrmS 0 c with
    | false =>
      have hn2 : cnfB l = false := by unfold cnfB; rw [hI, hn]; simp
      rw [hn2] at h
      simp
      exact h
    | true =>
      simp [es]
      exact forK_go _ hlt (by simp [mkEnv, List.replicate]) ⟨rfl, by rw [hI, hn]; simp, rfl⟩
  · have : i = l.length := by omega
    subst this
    rw [List.drop_length] at hI
    rw [List.take_length]
    unfold cnfB at h
    rw [hI] at h
    by_cases c1 : l.length ≤ 20000
    · have c1' : (l.length : Int) ≤ 20000 := by omega
      by_cases c2 : sumL l ≤ 200000
      · have c2' : (sumL l : Int) ≤ 200000 := by omega
        simp [c1', c2']
        simpa [c1, c2] using h
      · have c2' : ¬ (sumL l : Int) ≤ 200000 := by omega
        simp [c1', c2']
        simpa [c1, c2] using h
    · have c1' : ¬ (l.length : Int) ≤ 20000 := by omega
      simp [c1']
      simpa [c1] using h
set_option maxHeartbeats 1000000 in
theorem p_cnf_ok {l : List (List Int)} {f : FuncId} {pre caps : List DV} {g : Int → Bool} {σ : GS} {Post : DV → GS → Prop} (hl : lensC l < 2 ^ 40)
    (hf : ∀ (x : Int) (K : DV → GS → Prop), K (.bool (g x)) σ → GCall Tryz.prog f (pre ++ .int .i64 x :: caps) σ K) (h : Post (.bool (cnfG g l)) σ) : GCall Tryz.prog F_prefix_cnf [fcls l, .func f pre caps] σ Post := by
  have hll := sumL_lens l
  refine gc_prefix_cnf ?_
  by_cases c1 : l.length ≤ 20000
  rotate_left
  · have c1' : (20000 : Int) < l.length := by omega
    have hn : cnfG g l = false := by simp [cnfG, c1]
    rw [hn] at h
    simp [G_prefix_cnf, genv0, List.replicate, c1']
    exact h
  have c1' : ¬ ((20000 : Int) < l.length) := by omega
  simp [G_prefix_cnf, genv0, List.replicate, c1']
  refine gfor l.length (fun i e σ' => σ' = σ ∧ l.all (nrmG g 0) = (l.drop i).all (nrmG g 0) ∧ e = mkEnv 59 [(1, .func f pre caps), (5, .int .i64 (sumL (l.take i))), (14, fcls l), (15, .int .i64 l.length), (16, .int .i64 i)]) _ ?_ ⟨rfl, by simp, rfl⟩ ?_
  · simp [mkEnv, List.replicate, sumL]
  rintro i _ σ hi ⟨rfl, hI, rfl⟩
  simp [mkEnv, List.replicate]
  by_cases hlt : i < l.length
  rotate_left
  · have : i = l.length := by omega
    subst this
    rw [List.drop_length] at hI
    rw [List.take_length]
    unfold cnfG at h
    rw [hI] at h
    by_cases c2 : sumL l ≤ 200000
    · have c2' : (sumL l : Int) ≤ 200000 := by omega
      simp [c2']
      simpa [c1, c2] using h
    · have c2' : ¬ (sumL l : Int) ≤ 200000 := by omega
      simp [c2']
      simpa [c1, c2] using h
  obtain ⟨c, hc⟩ := nth_lt hlt
  have hc' := nth_get hc
  have hcl := lensC_mem (List.mem_of_getElem? hc')
  have hsp := sumL_push hc'
  have hst := sumL_take l (i + 1)
  rw [drop_get hc', List.all_cons] at hI
  have es : IntKind.i64.wrap ((i : Int) + 1) = (i : Int) + 1 := by rw [wrap_small] <;> omega
  have es2 : IntKind.i64.wrap ((sumL (l.take i) : Int) + c.length) = (sumL (l.take (i + 1)) : Int) := by rw [hsp, wrap_small] <;> omega
  have hbad : nrmG g 0 c = false → cnfG g l = false := fun e => by unfold cnfG; rw [hI, e]; simp
  simp [hlt, hc]
  refine gfor c.length (fun j e σ' => σ' = σ ∧ ∃ last, nrmG g 0 c = nrmG g last (c.drop j) ∧ e = mkEnv 59 [(1, .func f pre caps), (5, .int .i64 (sumL (l.take i))), (7, fints c), (8, .int .i64 last), (14, fcls l), (15, .int .i64 l.length), (16, .int .i64 i), (20, fints c), (21, .int .i64 c.length), (22, .int .i64 j)]) _ ?_ ⟨rfl, 0, rfl, rfl⟩ ?_
  · simp [mkEnv, List.replicate]
  rintro j _ σ hj ⟨rfl, last, hJ, rfl⟩
  simp [mkEnv, List.replicate]
  by_cases hjl : j < c.length
  rotate_left
  · have : j = c.length := by omega
    subst this
    rw [List.drop_length] at hJ
    simp [es, es2]
    exact forK_go _ hlt (by simp [mkEnv, List.replicate]) ⟨rfl, by rw [hI, hJ]; simp [nrmG], rfl⟩
  obtain ⟨y, hy⟩ := nth_lt hjl
  have hy' := nth_get hy
  rw [drop_get hy', nrmG] at hJ
  have es3 : IntKind.i64.wrap ((j : Int) + 1) = (j : Int) + 1 := by rw [wrap_small] <;> omega
  by_cases a1 : y = 0
  · rw [hbad (by rw [hJ]; simp [litOk, a1])] at h
    simp [hjl, hy, a1]
    exact h
  by_cases a2 : y < -65536
  · rw [hbad (by rw [hJ]; simp [litOk, show ¬ (-65536 ≤ y) by omega])] at h
    simp [hjl, hy, a1, a2]
    exact h
  by_cases a3 : 65536 < y
  · rw [hbad (by rw [hJ]; simp [litOk, show ¬ (y ≤ 65536) by omega])] at h
    simp [hjl, hy, a1, a2, a3]
    exact h
  have hok : litOk y = true := by simp [litOk, a1]; omega
  simp [hjl, hy, a1, a2, a3]
  refine p_abs_ok ?_
  by_cases a4 : absW y ≤ last
  · rw [hbad (by rw [hJ]; simp [show ¬ (last < absW y) by omega])] at h
    simp [a4]
    exact h
  simp [a4]
  refine p_abs_ok ?_
  simp
  refine hf _ _ ?_
  cases hg : g (absW y) with
  | false =>
    rw [hbad (by rw [hJ, hg]; simp)] at h
    simp
    exact h
  | true =>
    simp
    refine p_abs_ok ?_
    simp [es3]
    exact forK_go _ hjl (by simp [mkEnv, List.replicate]) ⟨rfl, absW y, by rw [hJ, hg]; simp [hok, show last < absW y by omega], rfl⟩
end Go.Gh
namespace Go.Gh
open Go.RowKit Go.Proofs
set_option linter.unusedVariables false
set_option linter.unusedSimpArgs false
set_option maxRecDepth 100000
theorem p_rises_ok {l : List Int} {σ : GS} {Post : DV → GS → Prop} (hl : l.length < 2 ^ 50) (h : Post (.bool (riseS 0 l)) σ) : GCall Tryz.prog F_prefix_rises [fints l] σ Post := by
  refine gc_prefix_rises ?_
  simp [G_prefix_rises, genv0, List.replicate]
  refine gfor l.length (fun i e σ' => σ' = σ ∧ (∃ last, riseS 0 l = riseS last (l.drop i) ∧ (i = 0 → last = 0) ∧ ∀ j, j + 1 = i → ∃ y, l[j]? = some y ∧ last = y) ∧ e = mkEnv 32 [(0, fints l), (5, fints l), (6, .int .i64 l.length), (7, .int .i64 i)]) _ ?_ ⟨rfl, ⟨0, by simp, fun _ => rfl, fun j h => by omega⟩, rfl⟩ ?_
  · simp [mkEnv, List.replicate]
  rintro i _ σ hi ⟨rfl, ⟨last, hI, hl0, hl1⟩, rfl⟩
  simp [mkEnv, List.replicate]
  by_cases hlt : i < l.length
  · obtain ⟨y, hy⟩ := nth_lt hlt
    have hy' := nth_get hy
    rw [drop_get hy', riseS] at hI
    have es : IntKind.i64.wrap ((i : Int) + 1) = (i : Int) + 1 := by rw [wrap_small] <;> omega
    by_cases a1 : y < 1
    · have hn : riseS 0 l = false := by rw [hI]; simp [isVar, show ¬ (1 ≤ y) by omega]
      rw [hn] at h
      simp [hlt, hy, a1]
      exact h
    by_cases a3 : 65536 < y
    · have hn : riseS 0 l = false := by rw [hI]; simp [isVar, show ¬ (y ≤ 65536) by omega]
      rw [hn] at h
      simp [hlt, hy, a1, a3]
      exact h
    have hok : isVar y = true := by simp [isVar]; omega
    simp [hlt, hy, a1, a3]
    cases i with
    | zero =>
      have := hl0 rfl
      subst this
      simp [es]
      refine forK_go _ hlt (by simp [mkEnv, List.replicate]) ⟨rfl, ⟨y, by rw [hI]; simp [hok, show 0 < y by omega], fun e => by omega, fun j hj => ?_⟩, rfl⟩
      have : j = 0 := by omega
      subst this; exact ⟨y, hy', rfl⟩
    | succ i =>
      obtain ⟨z, hz, hlz⟩ := hl1 i rfl
      have hz' : nth l i = some z := hz
      have hge : (0 : Int) ≤ (i : Int) + 1 := by omega
      have hgt : (0 : Int) < (i : Int) + 1 := by omega
      have htn : ((i : Int) + 1).toNat = i + 1 := by omega
      have ew' : IntKind.i64.wrap (i : Int) = i := by rw [wrap_small] <;> omega
      have es2 : IntKind.i64.wrap ((i : Int) + 1 + 1) = (i : Int) + 1 + 1 := by rw [wrap_small] <;> omega
      simp [hge, hgt, htn, hy, ew', hz']
      by_cases h4 : y ≤ z
      · have hn : riseS 0 l = false := by rw [hI]; simp [show ¬ (last < y) by omega]
        rw [hn] at h
        simp [h4]
        exact h
      · simp [h4, es2]
        refine forK_go _ hlt (by simp [mkEnv, List.replicate]) ⟨rfl, ⟨y, by rw [hI]; simp [hok, show last < y by omega], fun e => by omega, fun j hj => ?_⟩, rfl⟩
        have : j = i + 1 := by omega
        subst this; exact ⟨y, hy', rfl⟩
  · have : i = l.length := by omega
    subst this
    rw [List.drop_length] at hI
    have hn : riseS 0 l = true := hI
    rw [hn] at h
    simp
    exact h
theorem r_Rises_ok {l : List Int} {σ : GS} {Post : DV → GS → Prop} (hl : l.length < 2 ^ 50) (h : Post (.bool (riseS 0 l)) σ) : GCall Tryz.prog F_skolemref03_Rises [fints l] σ Post := by
  refine gc_skolemref03_Rises ?_
  simp [G_skolemref03_Rises, genv0, List.replicate]
  refine gfor l.length (fun i e σ' => σ' = σ ∧ (∃ last, riseS 0 l = riseS last (l.drop i) ∧ (i = 0 → last = 0) ∧ ∀ j, j + 1 = i → ∃ y, l[j]? = some y ∧ last = y) ∧ e = mkEnv 38 [(0, fints l), (3, .int .i64 i)]) _ ?_ ⟨rfl, ⟨0, by simp, fun _ => rfl, fun j h => by omega⟩, rfl⟩ ?_
  · simp [mkEnv, List.replicate]
  rintro i _ σ hi ⟨rfl, ⟨last, hI, hl0, hl1⟩, rfl⟩
  simp [mkEnv, List.replicate]
  by_cases hlt : i < l.length
  · obtain ⟨y, hy⟩ := nth_lt hlt
    have hy' := nth_get hy
    rw [drop_get hy', riseS] at hI
    have es : IntKind.i64.wrap ((i : Int) + 1) = (i : Int) + 1 := by rw [wrap_small] <;> omega
    by_cases a1 : y < 1
    · have hn : riseS 0 l = false := by rw [hI]; simp [isVar, show ¬ (1 ≤ y) by omega]
      rw [hn] at h
      simp [hlt, hy, a1]
      exact h
    by_cases a3 : 65536 < y
    · have hn : riseS 0 l = false := by rw [hI]; simp [isVar, show ¬ (y ≤ 65536) by omega]
      rw [hn] at h
      simp [hlt, hy, a1, a3]
      exact h
    have hok : isVar y = true := by simp [isVar]; omega
    simp [hlt, hy, a1, a3]
    cases i with
    | zero =>
      have := hl0 rfl
      subst this
      simp [es]
      refine forK_go _ hlt (by simp [mkEnv, List.replicate]) ⟨rfl, ⟨y, by rw [hI]; simp [hok, show 0 < y by omega], fun e => by omega, fun j hj => ?_⟩, rfl⟩
      have : j = 0 := by omega
      subst this; exact ⟨y, hy', rfl⟩
    | succ i =>
      obtain ⟨z, hz, hlz⟩ := hl1 i rfl
      have hz' : nth l i = some z := hz
      have hge : (0 : Int) ≤ (i : Int) + 1 := by omega
      have hgt : (0 : Int) < (i : Int) + 1 := by omega
      have htn : ((i : Int) + 1).toNat = i + 1 := by omega
      have ew' : IntKind.i64.wrap (i : Int) = i := by rw [wrap_small] <;> omega
      have es2 : IntKind.i64.wrap ((i : Int) + 1 + 1) = (i : Int) + 1 + 1 := by rw [wrap_small] <;> omega
      simp [hge, hgt, htn, hy, ew', hz']
      by_cases h4 : y ≤ z
      · have hn : riseS 0 l = false := by rw [hI]; simp [show ¬ (last < y) by omega]
        rw [hn] at h
        simp [h4]
        exact h
      · simp [h4, es2]
        refine forK_go _ hlt (by simp [mkEnv, List.replicate]) ⟨rfl, ⟨y, by rw [hI]; simp [hok, show last < y by omega], fun e => by omega, fun j hj => ?_⟩, rfl⟩
        have : j = i + 1 := by omega
        subst this; exact ⟨y, hy', rfl⟩
  · have : i = l.length := by omega
    subst this
    rw [List.drop_length] at hI
    have hn : riseS 0 l = true := hI
    rw [hn] at h
    simp
    exact h
theorem r_Part_ok {a b : List Int} {σ : GS} {Post : DV → GS → Prop} (ha : a.length < 2 ^ 50) (hb : b.length < 2 ^ 50) (h : Post (.bool (a.all fun v => b.contains v)) σ) : GCall Tryz.prog F_skolemref03_Part [fints a, fints b] σ Post := by
  refine gc_skolemref03_Part ?_
  simp [G_skolemref03_Part, genv0, List.replicate]
  refine gfor a.length (fun i e σ' => σ' = σ ∧ (a.all fun v => b.contains v) = ((a.drop i).all fun v => b.contains v) ∧ e = mkEnv 19 [(0, fints a), (1, fints b), (5, .int .i64 i)]) _ ?_ ⟨rfl, by simp, rfl⟩ ?_
  · simp [mkEnv, List.replicate]
  rintro i _ σ hi ⟨rfl, hI, rfl⟩
  simp [mkEnv, List.replicate]
  by_cases hlt : i < a.length
  · obtain ⟨y, hy⟩ := nth_lt hlt
    rw [drop_get hy, List.all_cons] at hI
    have es : IntKind.i64.wrap ((i : Int) + 1) = (i : Int) + 1 := by rw [wrap_small] <;> omega
    simp [hlt, hy]
    refine r_Has_ok (by omega) ?_
    cases c : b.contains y with
    | false =>
      rw [c] at hI
      rw [hI] at h
      simp
      simpa using h
    | true =>
      simp [es]
      exact forK_go _ hlt (by simp [mkEnv, List.replicate]) ⟨rfl, by rw [hI, c]; simp, rfl⟩
  · have : i = a.length := by omega
    subst this
    rw [List.drop_length] at hI
    rw [hI] at h
    simp
    simpa using h
theorem r_within_ok {l : List (List Int)} {vars : List Int} {σ : GS} {Post : DV → GS → Prop} (hl : lensC l < 2 ^ 40) (hv : vars.length < 2 ^ 50) (hw : WfC l) (h : Post (.bool (withinB l vars)) σ) : GCall Tryz.prog F_skolemref03_within [fcls l, fints vars] σ Post := by
  have hll := sumL_lens l
  refine gc_skolemref03_within ?_
  simp [G_skolemref03_within, genv0, List.replicate]
  refine gfor l.length (fun i e σ' => σ' = σ ∧ withinB l vars = withinB (l.drop i) vars ∧ e = mkEnv 33 [(0, fcls l), (1, fints vars), (5, .int .i64 i)]) _ ?_ ⟨rfl, by simp, rfl⟩ ?_
  · simp [mkEnv, List.replicate]
  rintro i _ σ hi ⟨rfl, hI, rfl⟩
  simp [mkEnv, List.replicate]
  by_cases hlt : i < l.length
  rotate_left
  · have : i = l.length := by omega
    subst this
    rw [List.drop_length] at hI
    rw [hI] at h
    simp
    exact h
  obtain ⟨c, hc⟩ := nth_lt hlt
  have hc' := nth_get hc
  have hcm := List.mem_of_getElem? hc'
  have hcl := lensC_mem hcm
  unfold withinB at hI
  rw [drop_get hc', List.all_cons] at hI
  have es : IntKind.i64.wrap ((i : Int) + 1) = (i : Int) + 1 := by rw [wrap_small] <;> omega
  simp [hlt]
  refine gfor c.length (fun j e σ' => σ' = σ ∧ (c.all fun x => vars.contains (absW x)) = ((c.drop j).all fun x => vars.contains (absW x)) ∧ e = mkEnv 33 [(0, fcls l), (1, fints vars), (5, .int .i64 i), (6, .int .i64 j)]) _ ?_ ⟨rfl, by simp, rfl⟩ ?_
  · simp [mkEnv, List.replicate]
  rintro j _ σ hj ⟨rfl, hJ, rfl⟩
  simp [mkEnv, List.replicate, hc]
  by_cases hjl : j < c.length
  rotate_left
  · have : j = c.length := by omega
    subst this
    rw [List.drop_length] at hJ
    simp [es]
    exact forK_go _ hlt (by simp [mkEnv, List.replicate]) ⟨rfl, by unfold withinB; rw [hI, hJ]; simp, rfl⟩
  obtain ⟨y, hy⟩ := nth_lt hjl
  have hy' := nth_get hy
  have hyw := hw c hcm y (List.mem_of_getElem? hy')
  rw [drop_get hy', List.all_cons] at hJ
  have es3 : IntKind.i64.wrap ((j : Int) + 1) = (j : Int) + 1 := by rw [wrap_small] <;> omega
  simp [hjl, hy, hc]
  refine r_Abs_ok ?_
  rw [absW_eq hyw]
  simp
  refine r_Has_ok (by omega) ?_
  cases hg : vars.contains (absW y) with
  | false =>
    have hbad : withinB l vars = false := by unfold withinB; rw [hI, hJ, hg]; simp
    rw [hbad] at h
    simp
    exact h
  | true =>
    simp [es3]
    exact forK_go _ hjl (by simp [mkEnv, List.replicate]) ⟨rfl, by rw [hJ, hg]; simp, rfl⟩
end Go.Gh
namespace Go.Gh
open Go.RowKit Go.Sort Go.Shelf Go.Proofs
set_option linter.unusedVariables false
set_option linter.unusedSimpArgs false
end Go.Gh
namespace Go.Gh
open Go.RowKit Go.Proofs
set_option linter.unusedVariables false
set_option linter.unusedSimpArgs false
set_option maxRecDepth 100000
end Go.Gh
namespace Go.Gh
open Go.RowKit Go.Proofs
set_option linter.unusedVariables false
set_option linter.unusedSimpArgs false
set_option maxRecDepth 100000
end Go.Gh
namespace Go.Gh
open Go.RowKit Go.Proofs
set_option linter.unusedVariables false
set_option linter.unusedSimpArgs false
set_option maxRecDepth 100000
theorem r_Same_ok {a b : List Blk} {σ : GS} {Post : DV → GS → Prop} (ha : lensB a < 2 ^ 40) (h : Post (.bool (decide (a = b))) σ) : GCall Tryz.prog F_skolemref03_Same [fblks a, fblks b] σ Post := by
  have hla : a.length ≤ lensB a := by unfold lensB; omega
  refine gc_skolemref03_Same ?_
  by_cases hlen : a.length = b.length
  rotate_left
  · have hne : a ≠ b := fun e => hlen (by rw [e])
    have hlen' : ¬ ((a.length : Int) = b.length) := by omega
    simp [G_skolemref03_Same, genv0, List.replicate, hlen']
    simpa [hne] using h
  simp [G_skolemref03_Same, genv0, List.replicate, hlen]
  refine gfor a.length (fun i e σ' => σ' = σ ∧ (a = b ↔ a.drop i = b.drop i) ∧ e = mkEnv 42 [(0, fblks a), (1, fblks b), (5, .int .i64 i)]) _ ?_ ⟨rfl, by simp, rfl⟩ ?_
  · simp [mkEnv, List.replicate]
  rintro i _ σ hi ⟨rfl, hI, rfl⟩
  simp [mkEnv, List.replicate]
  by_cases hlt : i < a.length
  · obtain ⟨x, hx⟩ := nth_lt hlt
    obtain ⟨y, hy⟩ := nth_lt (l := b) (i := i) (by omega)
    have hx' := nth_get hx
    have hxl := lensB_mem (List.mem_of_getElem? hx')
    rw [drop_get hx, drop_get hy, List.cons.injEq] at hI
    have es : IntKind.i64.wrap ((i : Int) + 1) = (i : Int) + 1 := by rw [wrap_small] <;> omega
    obtain ⟨x1, x2⟩ := x
    obtain ⟨y1, y2⟩ := y
    by_cases e1 : x1 = y1
    · simp [hlt, hx, hy, e1]
      refine r_Ints_ok (by simp at hxl; omega) ?_
      by_cases c : x2 = y2
      · simp [c, es]
        exact forK_go _ hlt (by simp [mkEnv, List.replicate]) ⟨rfl, by rw [hI]; simp [c, e1], rfl⟩
      · have hne : a ≠ b := fun e => by have := (hI.1 e).1; simp [c] at this
        simp [c]
        simpa [hne] using h
    · have hne : a ≠ b := fun e => by have := (hI.1 e).1; simp [e1] at this
      have e2 : (x1 != y1) = true := by simpa using e1
      simp [hlt, hx, hy, e2]
      simpa [hne] using h
  · have : i = a.length := by omega
    subst this
    have he : a = b := hI.2 (by rw [List.drop_length, hlen, List.drop_length])
    simp
    simpa [he] using h
end Go.Gh
namespace Go.Gh
open Go.RowKit Go.Proofs
set_option linter.unusedVariables false
set_option linter.unusedSimpArgs false
set_option maxRecDepth 100000
theorem p_SameBlk_ok {x y : Blk} {σ : GS} {Post : DV → GS → Prop} (hl : x.2.length < 2 ^ 60) (h : Post (.bool (decide (x = y))) σ) : GCall Tryz.prog F_prefix_Same_1 [.agg (eblk x), .agg (eblk y)] σ Post := by
  refine GCall.say (r := .bool (decide (x = y))) ?_ rfl h
  refine gc_prefix_Same_1 ?_
  obtain ⟨a, xs⟩ := x
  obtain ⟨b, ys⟩ := y
  by_cases c : a = b
  · simp [G_prefix_Same_1, genv0, List.replicate, c]
    refine p_Equal_ok hl ?_
    simp [c]
  · have c2 : (a == b) = false := by simpa using c
    simp [G_prefix_Same_1, genv0, List.replicate, c2, c]
theorem p_EqBlks_ok {xs ys : List Blk} {σ : GS} {Post : DV → GS → Prop} (hl : lensB xs < 2 ^ 40) (h : Post (.bool (decide (xs = ys))) σ) : GCall Tryz.prog F_slices_EqualFunc_api_Block_api_Block_api_Block_api_Block [fblks xs, fblks ys, .func F_prefix_Same_1 [] []] σ Post := by
  have hl1 := lensB_flat xs
  refine GCall.say (r := .bool (decide (xs = ys))) ?_ rfl h
  refine gc_slices_EqualFunc_api_Block_api_Block_api_Block_api_Block ?_
  by_cases hlen : xs.length = ys.length
  rotate_left
  · have hne : xs ≠ ys := fun e => hlen (by rw [e])
    have hlen' : ¬ ((xs.length : Int) = ys.length) := by omega
    simp [G_slices_EqualFunc_api_Block_api_Block_api_Block_api_Block, genv0, List.replicate, hlen', hne]
    exact .rfl'
  simp [G_slices_EqualFunc_api_Block_api_Block_api_Block_api_Block, genv0, List.replicate, hlen]
  refine gfor xs.length (fun i e σ' => Fr σ.length σ σ' ∧ (xs = ys ↔ xs.drop i = ys.drop i) ∧ e = mkEnv 32 [(1, fblks ys), (2, .func F_prefix_Same_1 [] []), (15, fblks xs), (16, .int .i64 xs.length), (17, .int .i64 i)]) _ ?_ ⟨.rfl', by simp, rfl⟩ ?_
  · simp [mkEnv, List.replicate, hlen]
  rintro i _ σ1 hi ⟨hF, hI, rfl⟩
  simp [mkEnv, List.replicate]
  by_cases hlt : i < xs.length
  · obtain ⟨x, hx⟩ := nth_lt hlt
    obtain ⟨y, hy⟩ := nth_lt (l := ys) (i := i) (by omega)
    have hx' := nth_get hx
    have hxl := lensB_mem (List.mem_of_getElem? hx')
    rw [drop_get hx, drop_get hy, List.cons.injEq] at hI
    have es : IntKind.i64.wrap ((i : Int) + 1) = (i : Int) + 1 := by rw [wrap_small] <;> omega
    simp [hlt, hx, hy]
    refine p_SameBlk_ok (x := x) (y := y) (by omega) ?_
    by_cases c : x = y
    · simp [c, es]
      exact forK_go _ hlt (by simp [mkEnv, List.replicate]) ⟨hF.app _, by rw [hI]; simp [c], rfl⟩
    · have hne : xs ≠ ys := fun e => c (hI.1 e).1
      simp [c, hne]
      exact hF.app _
  · have : i = xs.length := by omega
    subst this
    have he : xs = ys := hI.2 (by rw [List.drop_length, hlen, List.drop_length])
    simp [he]
    exact hF
theorem p_Same_ok {xs ys : List Blk} {σ : GS} {Post : DV → GS → Prop} (hl : lensB xs < 2 ^ 40) (h : Post (.bool (decide (xs = ys))) σ) : GCall Tryz.prog F_prefix_Same [fblks xs, fblks ys] σ Post := by
  refine gc_prefix_Same ?_
  simp [G_prefix_Same, genv0, List.replicate]
  refine p_EqBlks_ok hl ?_
  simp
  simpa using h
theorem p_hasP_ok {id : Nat} {σ : GS} {Post : DV → GS → Prop} (k : Post (.func F_prefix_has_prefix_place_1 [] [.ptr σ.length 0]) (σ ++ [.row false [.map id]])) : GCall Tryz.prog F_prefix_has_prefix_place [.map id] σ Post := by
  refine gc_prefix_has_prefix_place ?_
  simp [G_prefix_has_prefix_place, genv0, List.replicate]
  exact k
theorem p_hasP1_ok {p : List Blk} {E : List (Int × DV)} {id bx : Nat} {v : Int} {σ : GS} {Post : DV → GS → Prop} (hE : PlaceE p E) (hM : MpO kint σ id E) (hb : σ[bx]? = some (.row false [.map id])) (k : Post (.bool ((flatB p).contains v)) σ) : GCall Tryz.prog F_prefix_has_prefix_place_1 [.int .i64 v, .ptr bx 0] σ Post := by
  refine GCall.say (r := .bool ((flatB p).contains v)) ?_ rfl k
  refine gc_prefix_has_prefix_place_1 ?_
  have l1 : gload (.load 1 false) [.ptr bx 0] σ = some (.map id) := by rw [ld_at hb]; rfl
  rw [← findO_flat (k := 0)]
  simp [G_prefix_has_prefix_place_1, genv0, List.replicate, l1, place_lookup hE hM]
  cases findO 0 p v with
  | none => simp
  | some y => simp [placeV]
theorem p_MayQbf_ok {q : QbfP} {σ : GS} {Post : DV → GS → Prop} (hp : lensB q.pre < 2 ^ 40) (hc : lensC q.cls < 2 ^ 40) (h : Post (.bool (mayQ q)) σ) : GCall Tryz.prog F_prefix_MayQbf [q.enc] σ Post := by
  refine GCall.say (r := .bool (mayQ q)) ?_ rfl h
  refine gc_prefix_MayQbf ?_
  simp [G_prefix_MayQbf, genv0, List.replicate]
  refine p_May_ok hp ?_
  cases hm : mayB q.pre with
  | false => simp [mayQ, hm]
  | true =>
    simp
    refine p_places_ok hp fun E σ1 hE _ hM hF => ?_
    have hbx : σ1[σ.length]? = some (.row false (eqbf q)) := by rw [hF.get _ (by simp)]; simp
    have hge := hF.len
    simp at hge hM
    simp
    refine ⟨by rw [ld_at hbx]; rfl, ?_⟩
    refine p_hasP_ok ?_
    simp
    refine ⟨by rw [ld_app (by omega), ld_at hbx], ?_⟩
    have hM1 : MpO kint (σ1 ++ [.row false [.map (σ.length + 1 + 1)]]) (σ.length + 1 + 1) E := hM.fit (by rw [List.getElem?_append_left hM.dom])
    refine p_cnf_ok (pre := []) (g := fun v => (flatB q.pre).contains v) hc (fun x K hK => ?_) ?_
    · refine p_hasP1_ok hE hM1 (by simp) ?_
      simpa using hK
    · have hv : cnfG (fun v => (flatB q.pre).contains v) q.cls = mayQ q := by rw [cnfG_eq]; unfold mayQ withinB; rw [hm]; simp
      simp
      exact ⟨(Fr.rfl'.app _).trans ((hF.mono (by simp)).app _), by simpa using hv⟩
theorem r_MayQbf_ok {q : QbfP} {σ : GS} {Post : DV → GS → Prop} (hp : lensB q.pre < 2 ^ 40) (hc : lensC q.cls < 2 ^ 40) (hw : WfC q.cls) (h : Post (.bool (mayQ q)) σ) : GCall Tryz.prog F_skolemref03_MayQbf [q.enc] σ Post := by
  have hlb := lensB_flat q.pre
  refine GCall.say (r := .bool (mayQ q)) ?_ rfl h
  refine gc_skolemref03_MayQbf ?_
  simp [G_skolemref03_MayQbf, genv0, List.replicate]
  refine r_May_ok hp ?_
  cases hm : mayB q.pre with
  | false => simp [mayQ, hm]
  | true =>
    simp
    refine r_Cnf_ok hc ?_
    cases hk : cnfB q.cls with
    | false => simp [mayQ, hm, hk]
    | true =>
      simp
      refine r_Flat_ok hp ?_
      simp
      refine r_within_ok hc (by omega) hw ?_
      simp [mayQ, hm, hk]
end Go.Gh
namespace Go.Gh
open Go.RowKit Go.Proofs
set_option linter.unusedVariables false
set_option linter.unusedSimpArgs false
set_option maxRecDepth 100000
theorem lensD_mem {x : Dep} {l : List Dep} (h : x ∈ l) : x.2.length + 1 ≤ lensD l := by
  have h1 := mem_sum (f := fun b : Dep => b.2.length) h
  have h2 : 0 < l.length := List.length_pos_of_mem h
  unfold lensD; omega
theorem lensD_len (l : List Dep) : l.length ≤ lensD l := by unfold lensD; omega
theorem r_All_ok {d : DqbfP} {σ : GS} {Post : DV → GS → Prop} (hd : d.univ.length + lensD d.exist < 2 ^ 40) (h : Post (fints d.all) σ) : GCall Tryz.prog F_skolemref03_All [d.enc] σ Post := by
  have hle := lensD_len d.exist
  refine GCall.pure (r := fints d.all) ?_ (by simp) h
  refine gc_skolemref03_All ?_
  simp [G_skolemref03_All, genv0, List.replicate]
  have hO0 : Own (σ.length + 1) 1 eint (σ ++ [.row false (edqbf d), .row false []]) (.slice (σ.length + 1) 0 0 1 (some 0)) ([] : List Int) :=
    .inr ⟨σ.length + 1, some 0, [], by omega, rfl, by simp, fun c h => by cases h; simp⟩
  obtain ⟨s', σ2, q1, q2, q3, q4, q5, q6, q7⟩ := hO0.append (by_ := 8) (x := fints d.univ) (ys := d.univ) (fun _ => rfl) (by simpa [flatMap_flatten] using gread_fsl (sz := 1) (es := d.univ.map eint)) (by simp [glen]) (by simp) (by simp) (by simp; omega) (by decide)
  rw [List.nil_append] at q2
  have hz : gzeros [DV.int IntKind.i64 0] 0 = [] := rfl
  simp [hz, q1]
  have hbx : σ2[σ.length]? = some (.row false (edqbf d)) := by rw [q3.get _ (by simp)]; simp
  have hF2 : Fr σ.length σ σ2 := ((Fr.rfl'.app _).trans (q3.mono (by omega)))
  refine gfor d.exist.length (fun i e σ' => Fr σ.length σ σ' ∧ σ'[σ.length]? = some (.row false (edqbf d)) ∧ ∃ s, Own (σ.length + 1) 1 eint σ' s (d.univ ++ (d.exist.take i).map (·.1)) ∧ e = mkEnv 26 [(1, .ptr σ.length 0), (3, s), (4, .int .i64 i)]) _ ?_ ⟨hF2, hbx, s', by simpa using q2, rfl⟩ ?_
  · simp [mkEnv, List.replicate]
  rintro i _ σ' hi ⟨hF, hb, s, hO, rfl⟩
  have hge : σ.length + 1 ≤ σ'.length := get_dom hb
  simp [mkEnv, List.replicate]
  by_cases hlt : i < d.exist.length
  · obtain ⟨x, hx⟩ := nth_lt hlt
    have hx' := nth_get hx
    have es : IntKind.i64.wrap ((i : Int) + 1) = (i : Int) + 1 := by rw [wrap_small] <;> omega
    obtain ⟨s', σ2, q1, q2, q3, q4, q5, q6⟩ := hO.push (by_ := 8) x.1 (fun _ => rfl) (by simp) hge (by simp; omega) (by decide)
    simp [hlt, hx, ld_at hb, q1, es]
    have htk : (d.exist.take (i + 1)).map (·.1) = (d.exist.take i).map (·.1) ++ [x.1] := by rw [take_get hx']; simp
    exact forK_go _ hlt (by simp [mkEnv, List.replicate]) ⟨hF.trans (q3.mono (by omega)), by rw [q3.get _ (by omega)]; exact hb, s', by rw [htk, ← List.append_assoc]; exact q2, rfl⟩
  · have : i = d.exist.length := by omega
    subst this
    rw [List.take_length] at hO
    simp [ld_at hb]
    exact ⟨hF, hO.rd (fun _ => rfl) fun i hi => .inl (by omega)⟩
theorem r_MayDqbf_ok {d : DqbfP} {σ : GS} {Post : DV → GS → Prop} (hd : d.univ.length + lensD d.exist < 2 ^ 40) (hc : lensC d.cls < 2 ^ 40) (hw : WfC d.cls) (h : Post (.bool (mayD d)) σ) : GCall Tryz.prog F_skolemref03_MayDqbf [d.enc] σ Post := by
  have hle := lensD_len d.exist
  have hal : d.all.length = d.univ.length + d.exist.length := by simp [DqbfP.all]
  refine GCall.say (r := .bool (mayD d)) ?_ rfl h
  refine gc_skolemref03_MayDqbf ?_
  simp [G_skolemref03_MayDqbf, genv0, List.replicate]
  refine r_All_ok hd ?_
  have hsl : gpure (.slice 1 true false false) [fints d.all, .int .i64 d.univ.length] = some (fints (d.exist.map (·.1))) := by
    simp only [gpure, gslice, if_true, gbm, Option.bind_some, gbh, gbl, gbound, List.length_map]
    rw [if_pos (by simp [DqbfP.all])]
    simp [List.map_drop, DqbfP.all, List.take_of_length_le]
  by_cases h1 : d.all.length ≤ 1024
  rotate_left
  · have h1' : (1024 : Int) < d.all.length := by omega
    simp [h1', mayD, h1]
  have h1' : ¬ (1024 : Int) < d.all.length := by omega
  simp [h1']
  refine r_single_ok (by omega) ?_
  cases h2 : singleS [] d.all with
  | false => simp [mayD, h2]
  | true =>
  simp
  refine r_Rises_ok (by omega) ?_
  cases h3 : riseS 0 d.univ with
  | false => simp [mayD, h3]
  | true =>
  simp [hsl]
  refine r_Rises_ok (by simp; omega) ?_
  cases h4 : riseS 0 (d.exist.map (·.1)) with
  | false => simp [mayD, h4]
  | true =>
  simp
  refine r_Cnf_ok hc ?_
  cases h5 : cnfB d.cls with
  | false => simp [mayD, h5]
  | true =>
  simp
  refine r_within_ok hc (by omega) hw ?_
  cases h6 : withinB d.cls d.all with
  | false => simp [mayD, h6]
  | true =>
  simp
  have hm : mayD d = d.exist.all (onOk d.univ) := by simp [mayD, h1, h2, h3, h4, h5, h6]
  rw [hm]
  refine gfor d.exist.length (fun i e σ' => σ' = σ ++ [.row false (edqbf d)] ∧ d.exist.all (onOk d.univ) = (d.exist.drop i).all (onOk d.univ) ∧ e = mkEnv 70 [(1, .ptr σ.length 0), (4, .int .i64 i)]) _ ?_ ⟨rfl, by simp, rfl⟩ ?_
  · simp [mkEnv, List.replicate]
  rintro i _ σ' hi ⟨rfl, hI, rfl⟩
  simp [mkEnv, List.replicate]
  by_cases hlt : i < d.exist.length
  · obtain ⟨x, hx⟩ := nth_lt hlt
    have hx' := nth_get hx
    have hxm := lensD_mem (List.mem_of_getElem? hx')
    rw [drop_get hx', List.all_cons] at hI
    have es : IntKind.i64.wrap ((i : Int) + 1) = (i : Int) + 1 := by rw [wrap_small] <;> omega
    simp [hlt, hx]
    refine r_Rises_ok (by omega) ?_
    cases h7 : riseS 0 x.2 with
    | false =>
      have hb : d.exist.all (onOk d.univ) = false := by rw [hI]; simp [onOk, h7]
      rw [hb]
      simp
    | true =>
    simp [hx]
    refine r_Part_ok (by omega) (by omega) ?_
    cases h8 : (x.2.all fun v => d.univ.contains v) with
    | false =>
      have hb : d.exist.all (onOk d.univ) = false := by rw [hI]; simp only [onOk, h7, h8]; rfl
      rw [hb]
      simp
    | true =>
    simp [es]
    exact forK_go _ hlt (by simp [mkEnv, List.replicate]) ⟨rfl, by rw [hI]; simp only [onOk, h7, h8]; simp, rfl⟩
  · have : i = d.exist.length := by omega
    subst this
    rw [List.drop_length] at hI
    rw [hI]
    simp
end Go.Gh
namespace Go.Gh
open Go.RowKit Go.Proofs
set_option linter.unusedVariables false
set_option linter.unusedSimpArgs false
set_option maxRecDepth 100000
theorem p_IdxF_ok {f : FuncId} {pre caps : List DV} {xs : List Int} {p : Int → Bool} {σ : GS} {Post : DV → GS → Prop} (hl : xs.length < 2 ^ 60)
    (hf : ∀ x ∈ xs, ∀ K : DV → GS → Prop, K (.bool (p x)) σ → GCall Tryz.prog f (pre ++ .int .i64 x :: caps) σ K) (h : Post (.int .i64 (idxF p 0 xs)) σ) :
    GCall Tryz.prog F_slices_IndexFunc_int_int [fints xs, .func f pre caps] σ Post := by
  refine gc_slices_IndexFunc_int_int ?_
  simp [G_slices_IndexFunc_int_int, genv0, List.replicate]
  refine gfor xs.length (fun i e σ' => σ' = σ ∧ idxF p 0 xs = idxF p i (xs.drop i) ∧ e = mkEnv 19 [(0, fints xs), (1, .func f pre caps), (7, .int .i64 xs.length), (8, .int .i64 i)]) _ ?_ ⟨rfl, by simp, rfl⟩ ?_
  · simp [mkEnv, List.replicate]
  rintro i _ _ hi ⟨rfl, hI, rfl⟩
  simp [mkEnv, List.replicate]
  by_cases hlt : i < xs.length
  · obtain ⟨y, hy⟩ := nth_lt hlt
    have hy' := nth_get hy
    rw [drop_get hy'] at hI
    simp [hlt, hy]
    refine hf y (List.mem_of_getElem? hy') _ ?_
    by_cases h1 : p y = true
    · simp [h1]
      simpa [hI, idxF, h1] using h
    · simp [h1, wrap_suc (show i < _ by omega)]
      exact forK_go _ hlt (by simp [mkEnv, List.replicate]) ⟨rfl, by simp [hI, idxF, h1], rfl⟩
  · have : i = xs.length := by omega
    subst this
    simp
    simpa [hI, idxF] using h
theorem p_ContF_ok {f : FuncId} {pre caps : List DV} {xs : List Int} {p : Int → Bool} {σ : GS} {Post : DV → GS → Prop} (hl : xs.length < 2 ^ 60)
    (hf : ∀ x ∈ xs, ∀ K : DV → GS → Prop, K (.bool (p x)) σ → GCall Tryz.prog f (pre ++ .int .i64 x :: caps) σ K) (h : Post (.bool (xs.any p)) σ) :
    GCall Tryz.prog F_slices_ContainsFunc_int_int [fints xs, .func f pre caps] σ Post := by
  refine gc_slices_ContainsFunc_int_int ?_
  simp [G_slices_ContainsFunc_int_int, genv0, List.replicate]
  refine p_IdxF_ok hl hf ?_
  simp
  rw [idxF_any]
  exact h
theorem p_MayDqbf1_ok {l : List Int} {E : List (Int × DV)} {id bx : Nat} {v : Int} {σ : GS} {Post : DV → GS → Prop} (hM : MpO kint σ id E) (hE : ∀ k, kget k E = if l.contains k then some (.bool true) else none) (hb : σ[bx]? = some (.row false [.map id])) (k : Post (.bool (!l.contains v)) σ) : GCall Tryz.prog F_prefix_MayDqbf_1 [.int .i64 v, .ptr bx 0] σ Post := by
  refine gc_prefix_MayDqbf_1 ?_
  have l1 : gload (.load 1 false) [.ptr bx 0] σ = some (.map id) := by rw [ld_at hb]; rfl
  simp [G_prefix_MayDqbf_1, genv0, List.replicate, l1, look_set hM hE]
  simpa using k
theorem p_hasB_ok {id : Nat} {σ : GS} {Post : DV → GS → Prop} (k : Post (.func F_prefix_has_bool_1 [] [.ptr σ.length 0]) (σ ++ [.row false [.map id]])) : GCall Tryz.prog F_prefix_has_bool [.map id] σ Post := by
  refine gc_prefix_has_bool ?_
  simp [G_prefix_has_bool, genv0, List.replicate]
  exact k
theorem p_hasB1_ok {l : List Int} {E : List (Int × DV)} {id bx : Nat} {v : Int} {σ : GS} {Post : DV → GS → Prop} (hM : MpO kint σ id E) (hE : ∀ k, kget k E = if l.contains k then some (.bool true) else none) (hb : σ[bx]? = some (.row false [.map id])) (k : Post (.bool (l.contains v)) σ) : GCall Tryz.prog F_prefix_has_bool_1 [.int .i64 v, .ptr bx 0] σ Post := by
  refine gc_prefix_has_bool_1 ?_
  have l1 : gload (.load 1 false) [.ptr bx 0] σ = some (.map id) := by rw [ld_at hb]; rfl
  simp [G_prefix_has_bool_1, genv0, List.replicate, l1, look_set2 hM hE]
  simpa using k
/-- The heap of MayDqbf: the argument, the sets of the universal variables and of all, and where the first set lies. -/
structure DqH (n : Nat) (d : DqbfP) (E F : List (Int × DV)) (σ : GS) : Prop where
  len : n + 4 ≤ σ.length
  bx : σ[n]? = some (.row false (edqbf d))
  um : MpO kint σ (n + 1) E
  am : MpO kint σ (n + 2) F
  ub : σ[n + 3]? = some (.row false [.map (n + 1)])
theorem DqH.fr {n : Nat} {d : DqbfP} {E F : List (Int × DV)} {σ σ' : GS} (h : DqH n d E F σ) (hf : Fr (n + 4) σ σ') : DqH n d E F σ' :=
  ⟨by have := h.len; have := hf.len; omega, (hf.get _ (by omega)).trans h.bx, h.um.fit (hf.get _ (by omega)), h.am.fit (hf.get _ (by omega)), (hf.get _ (by omega)).trans h.ub⟩
theorem DqH.setu {n : Nat} {d : DqbfP} {E F : List (Int × DV)} {σ : GS} (h : DqH n d E F σ) (v : Int) : ∃ o, gimp (.mset (.int .i64)) [.map (n + 1), .int .i64 v, .bool true] σ = some (.tuple [], σ.set (n + 1) o) ∧ DqH n d (kset v (.bool true) E) F (σ.set (n + 1) o) := by
  obtain ⟨o, q1, q2⟩ := h.um.set (kt := .int .i64) v (.bool true)
  have := h.len
  exact ⟨o, q1, by simpa using h.len, by rw [List.getElem?_set_ne (by omega)]; exact h.bx, q2, h.am.fit (List.getElem?_set_ne (by omega)), by rw [List.getElem?_set_ne (by omega)]; exact h.ub⟩
theorem DqH.seta {n : Nat} {d : DqbfP} {E F : List (Int × DV)} {σ : GS} (h : DqH n d E F σ) (v : Int) : ∃ o, gimp (.mset (.int .i64)) [.map (n + 2), .int .i64 v, .bool true] σ = some (.tuple [], σ.set (n + 2) o) ∧ DqH n d E (kset v (.bool true) F) (σ.set (n + 2) o) := by
  obtain ⟨o, q1, q2⟩ := h.am.set (kt := .int .i64) v (.bool true)
  have := h.len
  exact ⟨o, q1, by simpa using h.len, by rw [List.getElem?_set_ne (by omega)]; exact h.bx, h.um.fit (List.getElem?_set_ne (by omega)), q2, by rw [List.getElem?_set_ne (by omega)]; exact h.ub⟩
/-- What MayDqbf asks of each row of a Dqbf. -/
def rowOk (u : List Int) (x : Dep) : Bool := !u.contains x.1 && onOk u x
set_option maxHeartbeats 2000000 in
theorem p_MayDqbf_ok {d : DqbfP} {σ : GS} {Post : DV → GS → Prop} (hd : d.univ.length + lensD d.exist < 2 ^ 40) (hc : lensC d.cls < 2 ^ 40) (h : Post (.bool (mayD d)) σ) : GCall Tryz.prog F_prefix_MayDqbf [d.enc] σ Post := by
  have hle := lensD_len d.exist
  have hal : d.all.length = d.univ.length + d.exist.length := by simp [DqbfP.all]
  rw [← mayD_eq] at h
  refine GCall.say (r := .bool (mayDP d)) ?_ rfl h
  refine gc_prefix_MayDqbf ?_
  simp [G_prefix_MayDqbf, genv0, List.replicate]
  refine gfor d.univ.length (fun i e σ' => Fr σ.length σ σ' ∧ DqH σ.length d (setK (d.univ.take i)) (setK (d.univ.take i)) σ' ∧ e = mkEnv 87 [(1, .ptr σ.length 0), (3, .ptr (σ.length + 3) 0), (4, .map (σ.length + 2)), (15, fints d.univ), (16, .int .i64 d.univ.length), (17, .int .i64 i)]) _ ?_ ⟨?_, ?_, rfl⟩ ?_
  · simp [mkEnv, List.replicate]
  · exact .app .rfl' _
  · exact ⟨by simp, by simp, ⟨by simp [setK], ([], 0), ⟨by simp [setK], by simp, by simp⟩, by simp [kenc, setK]⟩, ⟨by simp [setK], ([], 0), ⟨by simp [setK], by simp, by simp⟩, by simp [kenc, setK]⟩, by simp⟩
  rintro i _ σ' hi ⟨hF, hH, rfl⟩
  simp [mkEnv, List.replicate]
  by_cases hlt : i < d.univ.length
  · obtain ⟨v, hv⟩ := nth_lt hlt
    have hv' := nth_get hv
    have es : IntKind.i64.wrap ((i : Int) + 1) = (i : Int) + 1 := by rw [wrap_small] <;> omega
    obtain ⟨o1, q1, H1⟩ := hH.setu v
    obtain ⟨o2, q2, H2⟩ := H1.seta v
    simp [hlt, hv, ld_at hH.ub, q1, q2, es]
    exact forK_go _ hlt (by simp [mkEnv, List.replicate]) ⟨(hF.set (by omega) _).set (by omega) _, by rw [setK_push hv']; exact H2, rfl⟩
  have : i = d.univ.length := by omega
  subst this
  rw [List.take_length] at hH
  simp [ld_at hH.bx]
  obtain ⟨E, hEe⟩ : ∃ E, setK d.univ = E := ⟨_, rfl⟩
  have hE : ∀ k, kget k E = if d.univ.contains k then some (.bool true) else none := fun k => by rw [← hEe]; exact setK_get _ _
  rw [hEe] at hH
  refine gfor d.exist.length (fun i e σ2 => Fr σ.length σ σ2 ∧ DqH σ.length d E E σ2 ∧ d.exist.all (rowOk d.univ) = (d.exist.drop i).all (rowOk d.univ) ∧ ∃ s, Own (σ.length + 4) 1 eint σ2 s ((d.exist.take i).map (·.1)) ∧ e = mkEnv 87 [(1, .ptr σ.length 0), (3, .ptr (σ.length + 3) 0), (4, .map (σ.length + 2)), (7, s), (27, fdeps d.exist), (28, .int .i64 d.exist.length), (29, .int .i64 i)]) _ ?_ ⟨hF, hH, by simp, .nils, by simpa using Own.nil, rfl⟩ ?_
  · simp [mkEnv, List.replicate]
  clear hH hF hlt hi
  rintro i _ σ2 hi ⟨hF, hH, hI, s, hO, rfl⟩
  have hge := hH.len
  simp [mkEnv, List.replicate]
  by_cases hlt : i < d.exist.length
  · obtain ⟨x, hx⟩ := nth_lt hlt
    have hx' := nth_get hx
    have hxm := lensD_mem (List.mem_of_getElem? hx')
    rw [drop_get hx', List.all_cons] at hI
    have es : IntKind.i64.wrap ((i : Int) + 1) = (i : Int) + 1 := by rw [wrap_small] <;> omega
    have H1 : DqH σ.length d E E (σ2 ++ [.row false [.int .i64 x.1, fints x.2]]) := hH.fr ((Fr.refl hge).app _)
    have hbad : rowOk d.univ x = false → mayDP d = false := fun hh => by unfold mayDP; unfold rowOk at hI hh; rw [hI, hh]; simp
    have hl1 := look_set H1.am hE x.1
    simp [hlt, hx, hl1]
    by_cases c1 : d.univ.contains x.1 = true
    · have c1' : x.1 ∈ d.univ := by simpa using c1
      have hb := hbad (by simp [rowOk, c1'])
      simp [c1', hb]
      exact hF.app _
    have c1' : x.1 ∉ d.univ := by simpa using c1
    simp [c1']
    refine p_rises_ok (by omega) ?_
    cases c2 : riseS 0 x.2 with
    | false =>
      have hb := hbad (by simp [rowOk, onOk, c2])
      simp [hb]
      exact hF.app _
    | true =>
    simp
    refine p_ContF_ok (p := fun v => !d.univ.contains v) (by omega) (fun v _ K hK => p_MayDqbf1_ok H1.um hE H1.ub hK) ?_
    have hany : (x.2.any fun v => !d.univ.contains v) = !(x.2.all fun v => d.univ.contains v) := by rw [List.any_eq_not_all_not]; simp
    rw [hany]
    cases c3 : (x.2.all fun v => d.univ.contains v) with
    | false =>
      have hb := hbad (by simp only [rowOk, onOk, c2, c3]; simp)
      simp [hb]
      exact hF.app _
    | true =>
    have hO1 := hO.fr (Fr.rfl'.app [.row false [.int .i64 x.1, fints x.2]])
    have hlen1 : ((d.exist.take i).map (·.1)).length = i := by simp; omega
    obtain ⟨s', σ3, q1, q2, q3, q4, q5, q6⟩ := hO1.push (by_ := 8) x.1 (fun _ => rfl) (by simp) (by simp; omega) (by rw [hlen1]; omega) (by decide)
    simp at q1
    simp [q1, es]
    have htk : (d.exist.take (i + 1)).map (·.1) = (d.exist.take i).map (·.1) ++ [x.1] := by rw [take_get hx']; simp
    refine forK_go _ hlt (by simp [mkEnv, List.replicate]) ⟨(hF.app _).trans (q3.mono (by omega)), H1.fr q3, ?_, s', by rw [htk]; exact q2, rfl⟩
    rw [hI]
    have : rowOk d.univ x = true := by simp only [rowOk, onOk, c2, c3]; simpa using c1'
    rw [this, Bool.true_and]
  have : i = d.exist.length := by omega
  subst this
  rw [List.take_length] at hO
  rw [List.drop_length] at hI
  have hI' : d.exist.all (rowOk d.univ) = true := hI
  obtain ⟨l, hl⟩ : ∃ l, d.exist.map (·.1) = l := ⟨_, rfl⟩
  have hll : l.length = d.exist.length := by rw [← hl]; simp
  rw [hl] at hO
  have hv : mayDP d = (riseS 0 d.univ && riseS 0 l && decide (d.univ.length + l.length ≤ 1024) && cnfG (fun v => d.all.contains v) d.cls) := by
    unfold mayDP; unfold rowOk at hI'; rw [hI', hll, hl, Bool.true_and]
  have hal' : d.all = d.univ ++ l := by rw [← hl]; rfl
  simp [hO.len]
  refine gfor l.length (fun i e σ3 => Fr σ.length σ σ3 ∧ DqH σ.length d E ((l.take i).foldl (fun E v => kset v (.bool true) E) E) σ3 ∧ Own (σ.length + 4) 1 eint σ3 s l ∧ e = mkEnv 87 [(1, .ptr σ.length 0), (4, .map (σ.length + 2)), (7, s), (55, s), (56, .int .i64 l.length), (57, .int .i64 i)]) _ ?_ ⟨hF, hH, hO, rfl⟩ ?_
  · simp [mkEnv, List.replicate]
  clear hH hF hlt hi hO hge
  rintro i _ σ3 hi ⟨hF, hH, hO, rfl⟩
  have hge := hH.len
  simp [mkEnv, List.replicate]
  by_cases hlt : i < l.length
  · obtain ⟨v, hv'⟩ := get_lt hlt
    have es : IntKind.i64.wrap ((i : Int) + 1) = (i : Int) + 1 := by rw [wrap_small] <;> omega
    obtain ⟨id, g1, g2, g3, g4⟩ := hO.get (fun _ => rfl) hv' (k := .i64)
    have g5 := g4 0 (by omega)
    simp at g2 g5
    obtain ⟨o, q1, H1⟩ := hH.seta v
    simp [hlt, g2, g5, q1, es]
    refine forK_go _ hlt (by simp [mkEnv, List.replicate]) ⟨hF.set (by omega) _, by rw [take_get hv', List.foldl_append]; exact H1, hO.fit fun j hj => ?_, rfl⟩
    have := hO.has_ge hj
    exact List.getElem?_set_ne (by omega)
  have : i = l.length := by omega
  subst this
  rw [List.take_length] at hH
  simp [ld_at hH.bx]
  rw [hv]
  have hG : ∀ k, kget k (l.foldl (fun E v => kset v (.bool true) E) E) = if d.all.contains k then some (.bool true) else none := fun k => by rw [hal', ← hEe]; exact setF_setK _ _ k
  refine p_rises_ok (by omega) ?_
  cases c1 : riseS 0 d.univ with
  | false => simp; exact hF
  | true =>
  simp
  refine GCall.borrow (args' := [fints l]) (r := .bool (riseS 0 l)) (.cons (hO.rd (fun _ => rfl) fun _ _ => trivial) .nil) (by simp) rfl (p_rises_ok (by omega) rfl) ?_
  cases c2 : riseS 0 l with
  | false => simp; exact hF
  | true =>
  have ew : IntKind.i64.wrap ((d.univ.length : Int) + l.length) = (d.univ.length : Int) + l.length := by rw [wrap_small] <;> omega
  simp [ld_at hH.bx, hO.len, ew]
  by_cases c3 : d.univ.length + l.length ≤ 1024
  rotate_left
  · have c3' : ¬ ((d.univ.length : Int) + l.length ≤ 1024) := by omega
    simp [c3, c3']
    exact hF
  have c3' : (d.univ.length : Int) + l.length ≤ 1024 := by omega
  simp [c3, c3', ld_at hH.bx]
  refine p_hasB_ok ?_
  have hM1 : MpO kint (σ3 ++ [.row false [.map (σ.length + 2)]]) (σ.length + 2) _ := hH.am.fit (by rw [List.getElem?_append_left hH.am.dom])
  simp
  refine ⟨by rw [ld_app (by omega), ld_at hH.bx], ?_⟩
  refine p_cnf_ok (pre := []) (g := fun v => d.all.contains v) hc (fun x K hK => p_hasB1_ok hM1 hG (by simp) hK) ?_
  simp
  exact ⟨hF.app _, fun _ => c3⟩
end Go.Gh
namespace Go.Gh
open Go.RowKit Go.Proofs
set_option linter.unusedVariables false
set_option linter.unusedSimpArgs false
set_option maxRecDepth 100000
theorem l_wide_one {p : List Blk} {most : Int} {σ : GS} {Post : DV → GS → Prop} (hp : p.length < 2 ^ 60) (h : ∀ b, Post (.bool b) σ) : GCall Tryz.prog F_skolemlaw03_wide [fblks p, .nils, .int .i64 most] σ Post := by
  refine GCall.reads (args' := [fblks p, fcls [], .int .i64 most]) (.cons (.same _) (.cons (.nils 1) (.cons (.same _) .nil))) (l_wide_any hp (by simp) h)
theorem sz_sm {d : DqbfP} (hd : d.sz < 2 ^ 40) : d.Sm := by
  have h1 := lensD_len d.exist
  have h2 : d.cls.length ≤ lensC d.cls := by unfold lensC; omega
  have h3 : d.univ.length + lensD d.exist + lensC d.cls < 2 ^ 40 := hd
  exact ⟨by omega, ⟨by omega, fun b hb => by have := lensD_mem hb; omega⟩, ⟨by omega, fun c hc => by have := lensC_mem hc; omega⟩⟩
theorem sameD_self (d : DqbfP) : sameD d d = true := by unfold sameD; simp
set_option maxHeartbeats 2000000 in
theorem mays_ok {p : List Blk} {q : QbfP} {d : DqbfP} (hp : lensB p < 2 ^ 40) (hq : q.sz < 2 ^ 40) (hqw : WfC q.cls) (hd : d.sz < 2 ^ 40) (hdw : WfC d.cls) {σ : GS} {Post : DV → GS → Prop} (h : Post (.bool true) σ) : GCall Tryz.prog F_skolemlaw03_PrefixMays [fblks p, q.enc, d.enc] σ Post := by
  have hlb := lensB_flat p
  have hq1 : lensB q.pre + lensC q.cls < 2 ^ 40 := hq
  have hlq := lensB_flat q.pre
  have h2 : q.cls.length ≤ lensC q.cls := by unfold lensC; omega
  have hd1 : d.univ.length + lensD d.exist + lensC d.cls < 2 ^ 40 := hd
  have hSm := sz_sm hd
  refine GCall.say (r := .bool true) ?_ rfl h
  refine gc_skolemlaw03_PrefixMays ?_
  simp [G_skolemlaw03_PrefixMays, genv0, List.replicate]
  refine l_wide_one (by omega) fun b => ?_
  cases b with
  | true => simp; refine head_ok ?_; simp
  | false =>
  simp
  refine l_wide_any (by omega) (by omega) fun b => ?_
  cases b with
  | true => simp; refine head_ok ?_; simp
  | false =>
  simp
  refine l_broad_any hSm fun b => ?_
  cases b with
  | true => simp; refine head_ok ?_; simp
  | false =>
  simp
  refine p_May_ok hp ?_
  simp
  refine r_May_ok hp ?_
  simp
  refine p_MayQbf_ok (by omega) (by omega) ?_
  simp
  refine r_MayQbf_ok (by omega) (by omega) hqw ?_
  simp
  refine p_MayDqbf_ok (by omega) (by omega) ?_
  simp
  refine r_MayDqbf_ok (by omega) (by omega) hdw ?_
  simp
  refine p_Same_ok hp ?_
  simp
  refine r_Same_ok hp ?_
  simp
  refine p_Same_ok hp ?_
  simp
  refine p_SameDqbf_ok hSm ?_
  rw [sameD_self]
  simp
  refine head_ok ?_
  simp
end Go.Gh
