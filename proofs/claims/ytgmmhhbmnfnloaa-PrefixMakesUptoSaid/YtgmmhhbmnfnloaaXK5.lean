/-
  Proved: Join, Less and Close return what the reference returns, for any blocks, numbers and formula, and the arguments stay; where what is read is of bulk at most 1048576.
  Part 5 of 7. Conditions: none. A verified frame that runs compiled texts over a ghost heap, the contracts of the functions that the statement reaches, and the plain law.
-/
import Derived.Test.YtgmmhhbmnfnloaaXK4
import Derived.Test.YtgmmhhbmnfnloaaProg
import Derived.KernelRfl
namespace Go.Gh
open Go.Proofs
theorem seatfollows : Try.prog.follows .mixedOrders = true := by kernel_rfl
abbrev F_slices_Insert_api_Block_api_Block : Nat := 45
abbrev F_slices_overlaps_api_Block : Nat := 71
abbrev F_slices_rotateRight_api_Block : Nat := 72
noncomputable abbrev G_slices_Insert_api_Block_api_Block : GFun := ⟨95, [(.tmp 6)], (.seq (.region [⟨0, ⟨(some 6), none, (.pure .id), [(.const .nils)]⟩, []⟩]) (.seq (.region [⟨0, ⟨(some 10), none, (.pure .id), [(.tmp 0)]⟩, []⟩, ⟨0, ⟨(some 11), none, (.pure .id), [(.tmp 1)]⟩, []⟩, ⟨0, ⟨(some 12), none, (.pure (.slice 2 true false false)), [(.tmp 10), (.tmp 11)]⟩, []⟩]) (.seq (.region [⟨0, ⟨(some 13), none, (.pure .id), [(.tmp 2)]⟩, []⟩, ⟨0, ⟨(some 14), none, (.pure .len), [(.tmp 13)]⟩, []⟩, ⟨0, ⟨(some 7), none, (.pure .id), [(.tmp 14)]⟩, []⟩]) (.seq (.seq (.region [⟨0, ⟨(some 15), none, (.pure .id), [(.tmp 7)]⟩, []⟩, ⟨0, ⟨(some 16), none, (.pure (.bin .eql .none)), [(.tmp 15), (.const (.int .i64 0))]⟩, []⟩]) (.cond (.tmp 16) (.seq (.region [⟨0, ⟨(some 17), none, (.pure .id), [(.tmp 0)]⟩, []⟩, ⟨0, ⟨(some 6), none, (.pure .id), [(.tmp 17)]⟩, []⟩]) .ret) .skip)) (.seq (.region [⟨0, ⟨(some 18), none, (.pure .id), [(.tmp 0)]⟩, []⟩, ⟨0, ⟨(some 19), none, (.pure .len), [(.tmp 18)]⟩, []⟩, ⟨0, ⟨(some 8), none, (.pure .id), [(.tmp 19)]⟩, []⟩]) (.seq (.seq (.region [⟨0, ⟨(some 20), none, (.pure .id), [(.tmp 1)]⟩, []⟩, ⟨0, ⟨(some 21), none, (.pure .id), [(.tmp 8)]⟩, []⟩, ⟨0, ⟨(some 22), none, (.pure (.bin .eql .none)), [(.tmp 20), (.tmp 21)]⟩, []⟩]) (.cond (.tmp 22) (.seq (.region [⟨0, ⟨(some 23), none, (.pure .id), [(.tmp 0)]⟩, []⟩, ⟨0, ⟨(some 24), none, (.pure .id), [(.tmp 2)]⟩, []⟩, ⟨0, ⟨(some 25), none, (.imp (.append 2 32)), [(.tmp 23), (.tmp 24)]⟩, []⟩, ⟨0, ⟨(some 6), none, (.pure .id), [(.tmp 25)]⟩, []⟩]) .ret) .skip)) (.seq (.seq (.region [⟨0, ⟨(some 26), none, (.pure .id), [(.tmp 8)]⟩, []⟩, ⟨0, ⟨(some 27), none, (.pure .id), [(.tmp 7)]⟩, []⟩, ⟨0, ⟨(some 28), none, (.pure (.bin .add .none)), [(.tmp 26), (.tmp 27)]⟩, []⟩, ⟨0, ⟨(some 29), none, (.pure .id), [(.tmp 0)]⟩, []⟩, ⟨0, ⟨(some 30), none, (.pure .cap), [(.tmp 29)]⟩, []⟩, ⟨0, ⟨(some 31), none, (.pure (.bin .gtr .none)), [(.tmp 28), (.tmp 30)]⟩, []⟩]) (.cond (.tmp 31) (.seq (.region [⟨0, ⟨(some 32), none, (.pure .id), [(.tmp 0)]⟩, []⟩, ⟨0, ⟨(some 33), none, (.pure .id), [(.tmp 1)]⟩, []⟩, ⟨0, ⟨(some 34), none, (.pure (.slice 2 false true false)), [(.tmp 32), (.tmp 33)]⟩, []⟩, ⟨0, ⟨(some 35), none, (.pure .id), [(.tmp 8)]⟩, []⟩, ⟨0, ⟨(some 36), none, (.pure .id), [(.tmp 7)]⟩, []⟩, ⟨0, ⟨(some 37), none, (.pure (.bin .add .none)), [(.tmp 35), (.tmp 36)]⟩, []⟩, ⟨0, ⟨(some 38), none, (.pure .id), [(.tmp 1)]⟩, []⟩, ⟨0, ⟨(some 39), none, (.pure (.bin .sub .none)), [(.tmp 37), (.tmp 38)]⟩, []⟩, ⟨0, ⟨(some 40), none, (.imp (.appendz 2 32 [(.bool false), .nils])), [(.tmp 34), (.tmp 39)]⟩, []⟩, ⟨0, ⟨(some 9), none, (.pure .id), [(.tmp 40)]⟩, []⟩]) (.seq (.region [⟨0, ⟨(some 41), none, (.pure .id), [(.tmp 9)]⟩, []⟩, ⟨0, ⟨(some 42), none, (.pure .id), [(.tmp 1)]⟩, []⟩, ⟨0, ⟨(some 43), none, (.pure (.slice 2 true false false)), [(.tmp 41), (.tmp 42)]⟩, []⟩, ⟨0, ⟨(some 44), none, (.pure .id), [(.tmp 2)]⟩, []⟩, ⟨0, ⟨(some 45), none, (.imp (.copy 2)), [(.tmp 43), (.tmp 44)]⟩, []⟩]) (.seq (.region [⟨0, ⟨(some 46), none, (.pure .id), [(.tmp 9)]⟩, []⟩, ⟨1, ⟨(some 47), none, (.pure .id), [(.tmp 1)]⟩, []⟩, ⟨2, ⟨(some 48), none, (.pure .id), [(.tmp 7)]⟩, []⟩, ⟨3, ⟨(some 49), none, (.pure (.bin .add .none)), [(.tmp 47), (.tmp 48)]⟩, []⟩, ⟨4, ⟨(some 50), none, (.pure (.slice 2 true false false)), [(.tmp 46), (.tmp 49)]⟩, []⟩, ⟨5, ⟨(some 51), none, (.pure .id), [(.tmp 0)]⟩, []⟩, ⟨6, ⟨(some 52), none, (.pure .id), [(.tmp 1)]⟩, []⟩, ⟨7, ⟨(some 53), none, (.pure (.slice 2 true false false)), [(.tmp 51), (.tmp 52)]⟩, []⟩, ⟨8, ⟨(some 54), none, (.imp (.copy 2)), [(.tmp 50), (.tmp 53)]⟩, []⟩]) (.seq (.region [⟨0, ⟨(some 55), none, (.pure .id), [(.tmp 9)]⟩, []⟩, ⟨0, ⟨(some 6), none, (.pure .id), [(.tmp 55)]⟩, []⟩]) .ret)))) .skip)) (.seq (.region [⟨0, ⟨(some 56), none, (.pure .id), [(.tmp 0)]⟩, []⟩, ⟨0, ⟨(some 57), none, (.pure .id), [(.tmp 8)]⟩, []⟩, ⟨0, ⟨(some 58), none, (.pure .id), [(.tmp 7)]⟩, []⟩, ⟨0, ⟨(some 59), none, (.pure (.bin .add .none)), [(.tmp 57), (.tmp 58)]⟩, []⟩, ⟨0, ⟨(some 60), none, (.pure (.slice 2 false true false)), [(.tmp 56), (.tmp 59)]⟩, []⟩, ⟨0, ⟨(some 0), none, (.pure .id), [(.tmp 60)]⟩, []⟩]) (.seq (.seq (.region [⟨0, ⟨(some 61), none, (.pure .id), [(.tmp 2)]⟩, []⟩, ⟨0, ⟨(some 62), none, (.pure .id), [(.tmp 0)]⟩, []⟩, ⟨0, ⟨(some 63), none, (.pure .id), [(.tmp 1)]⟩, []⟩, ⟨0, ⟨(some 64), none, (.pure .id), [(.tmp 7)]⟩, []⟩, ⟨0, ⟨(some 65), none, (.pure (.bin .add .none)), [(.tmp 63), (.tmp 64)]⟩, []⟩, ⟨0, ⟨(some 66), none, (.pure (.slice 2 true false false)), [(.tmp 62), (.tmp 65)]⟩, []⟩, ⟨0, ⟨(some 67), none, (.xcall F_slices_overlaps_api_Block), [(.tmp 61), (.tmp 66)]⟩, []⟩, ⟨0, ⟨(some 68), none, (.pure (.un .not)), [(.tmp 67)]⟩, []⟩]) (.cond (.tmp 68) (.seq (.region [⟨0, ⟨(some 69), none, (.pure .id), [(.tmp 0)]⟩, []⟩, ⟨1, ⟨(some 70), none, (.pure .id), [(.tmp 1)]⟩, []⟩, ⟨2, ⟨(some 71), none, (.pure .id), [(.tmp 7)]⟩, []⟩, ⟨3, ⟨(some 72), none, (.pure (.bin .add .none)), [(.tmp 70), (.tmp 71)]⟩, []⟩, ⟨4, ⟨(some 73), none, (.pure (.slice 2 true false false)), [(.tmp 69), (.tmp 72)]⟩, []⟩, ⟨5, ⟨(some 74), none, (.pure .id), [(.tmp 0)]⟩, []⟩, ⟨6, ⟨(some 75), none, (.pure .id), [(.tmp 1)]⟩, []⟩, ⟨7, ⟨(some 76), none, (.pure (.slice 2 true false false)), [(.tmp 74), (.tmp 75)]⟩, []⟩, ⟨8, ⟨(some 77), none, (.imp (.copy 2)), [(.tmp 73), (.tmp 76)]⟩, []⟩]) (.seq (.region [⟨0, ⟨(some 78), none, (.pure .id), [(.tmp 0)]⟩, []⟩, ⟨0, ⟨(some 79), none, (.pure .id), [(.tmp 1)]⟩, []⟩, ⟨0, ⟨(some 80), none, (.pure (.slice 2 true false false)), [(.tmp 78), (.tmp 79)]⟩, []⟩, ⟨0, ⟨(some 81), none, (.pure .id), [(.tmp 2)]⟩, []⟩, ⟨0, ⟨(some 82), none, (.imp (.copy 2)), [(.tmp 80), (.tmp 81)]⟩, []⟩]) (.seq (.region [⟨0, ⟨(some 83), none, (.pure .id), [(.tmp 0)]⟩, []⟩, ⟨0, ⟨(some 6), none, (.pure .id), [(.tmp 83)]⟩, []⟩]) .ret))) .skip)) (.seq (.region [⟨0, ⟨(some 84), none, (.pure .id), [(.tmp 0)]⟩, []⟩, ⟨0, ⟨(some 85), none, (.pure .id), [(.tmp 8)]⟩, []⟩, ⟨0, ⟨(some 86), none, (.pure (.slice 2 true false false)), [(.tmp 84), (.tmp 85)]⟩, []⟩, ⟨0, ⟨(some 87), none, (.pure .id), [(.tmp 2)]⟩, []⟩, ⟨0, ⟨(some 88), none, (.imp (.copy 2)), [(.tmp 86), (.tmp 87)]⟩, []⟩]) (.seq (.region [⟨0, ⟨(some 89), none, (.pure .id), [(.tmp 0)]⟩, []⟩, ⟨0, ⟨(some 90), none, (.pure .id), [(.tmp 1)]⟩, []⟩, ⟨0, ⟨(some 91), none, (.pure (.slice 2 true false false)), [(.tmp 89), (.tmp 90)]⟩, []⟩, ⟨0, ⟨(some 92), none, (.pure .id), [(.tmp 7)]⟩, []⟩, ⟨0, ⟨(some 93), none, (.call F_slices_rotateRight_api_Block), [(.tmp 91), (.tmp 92)]⟩, []⟩]) (.seq (.region [⟨0, ⟨(some 94), none, (.pure .id), [(.tmp 0)]⟩, []⟩, ⟨0, ⟨(some 6), none, (.pure .id), [(.tmp 94)]⟩, []⟩]) .ret))))))))))))⟩
theorem c_slices_Insert_api_Block_api_Block : compF Try.prog Try.f45 = some G_slices_Insert_api_Block_api_Block := by kernel_rfl
theorem gc_slices_Insert_api_Block_api_Block {args : List DV} {σ : GS} {Post : DV → GS → Prop} (h : @exB Try.prog ⟨G_slices_Insert_api_Block_api_Block.body⟩ (genv0 args G_slices_Insert_api_Block_api_Block.ntmps) σ ⟨@gretB G_slices_Insert_api_Block_api_Block.results ⟨Post⟩⟩) : GCall Try.prog F_slices_Insert_api_Block_api_Block args σ Post := gcall_ofB seatfollows Try.func45 (by kernel_rfl) c_slices_Insert_api_Block_api_Block h
end Go.Gh
namespace Go.Gh
open Go.RowKit Go.Proofs
set_option linter.unusedVariables false
set_option linter.unusedSimpArgs false
set_option maxRecDepth 100000
theorem slice_loC {id off L c k sz : Nat} (h : k ≤ L) (h2 : L ≤ c) : gpure (.slice sz true false false) [.slice id off L sz (some c), .int .i64 (k : Int)] = some (.slice id (off + k * sz) (L - k) sz (some (c - k))) := by
  simp [gpure, gslice, gbm, gbh, gbl, gbound, h, h2]
theorem slice_hiC {id off L c k sz : Nat} (h : k ≤ c) : gpure (.slice sz false true false) [.slice id off L sz (some c), .int .i64 (k : Int)] = some (.slice id off k sz (some c)) := by
  simp [gpure, gslice, gbm, gbh, gbl, gbound, h]
theorem slice_loN {id off L k sz : Nat} (h : k ≤ L) : gpure (.slice sz true false false) [.slice id off L sz none, .int .i64 (k : Int)] = some (.slice id (off + k * sz) (L - k) sz none) := by
  simp [gpure, gslice, gbm, gbh, gbl, gbound, h]
theorem gzeros_len (z : List DV) (hz : z ≠ []) (m : Nat) : (gzeros z m).length = m := by
  unfold gzeros
  split
  · simp
  · simp
theorem gread_at {id off len sz : Nat} {cap : Option Nat} {σ : GS} {ro : Bool} {cs : List DV} (h : σ[id]? = some (.row ro cs)) (hl : off + len * sz ≤ cs.length) (h0 : 0 < len) : gread sz (.slice id off len sz cap) σ = some ((cs.drop off).take (len * sz)) := by
  simp only [gread]
  rw [if_neg (by omega), if_pos trivial, h]
  simp only
  rw [if_pos hl]
theorem gread_at0 {id off sz : Nat} {cap : Option Nat} {σ : GS} : gread sz (.slice id off 0 sz cap) σ = some [] := by simp [gread]
@[simp] theorem gp_cap_some (id off n sz c : Nat) : gpure .cap [.slice id off n sz (some c)] = some (.int .i64 c) := rfl
set_option maxHeartbeats 2000000 in
theorem insert_run {id id2 n i : Nat} {cs : List DV} {x y : DV} {σ : GS} (h1 : σ[id]? = some (.row false cs)) (hl : cs.length = n * 2) (h2 : σ[id2]? = some (.row false [x, y])) (hne : id ≠ id2) (hi : i < n) (hn : n < 2 ^ 40) (hf : cs.all DV.flat = true) (hx : x.flat = true) (hy : y.flat = true) :
    GCall Try.prog F_slices_Insert_api_Block_api_Block [.slice id 0 n 2 none, .int .i64 i, .slice id2 0 1 2 (some 1)] σ fun v σ' => v = .slice σ.length 0 (n + 1) 2 none ∧ σ' = σ.set id .dead ++ [.row false (cs.take (i * 2) ++ [x, y] ++ cs.drop (i * 2))] := by
  have hid := (List.getElem?_eq_some_iff.1 h1).1
  have hid2 := (List.getElem?_eq_some_iff.1 h2).1
  refine GCall.capsplit h1 (by simpa using hl.symm) fun c hc => ?_
  obtain ⟨A, hA⟩ : ∃ A, cs.take (i * 2) = A := ⟨_, rfl⟩
  obtain ⟨D, hD⟩ : ∃ D, cs.drop (i * 2) = D := ⟨_, rfl⟩
  have hAl : A.length = i * 2 := by rw [← hA]; simp; omega
  have hDl : D.length = (n - i) * 2 := by rw [← hD]; simp; omega
  have hAD : cs = A ++ D := by rw [← hA, ← hD, List.take_append_drop]
  have hDf : D.all DV.flat = true := by
    rw [List.all_eq_true] at hf ⊢
    intro d hd; exact hf d (by rw [hAD]; exact List.mem_append_right _ hd)
  have hxy : [x, y].all DV.flat = true := by simp [hx, hy]
  have w1 : IntKind.i64.wrap ((n : Int) + 1) = n + 1 := by rw [wrap_small] <;> omega
  have w2 : IntKind.i64.wrap ((i : Int) + 1) = i + 1 := by rw [wrap_small] <;> omega
  have w3 : IntKind.i64.wrap ((n : Int) + 1 - i) = n + 1 - i := by rw [wrap_small] <;> omega
  have hin : ¬ ((i : Int) = n) := by omega
  have hin2 : ¬ (i = n) := by omega
  rcases Nat.lt_or_ge n c with hlt | hge
  · obtain ⟨W, hW⟩ : ∃ W, List.replicate ((c - n) * 2) DV.any = W := ⟨_, rfl⟩
    have hWl : W.length = (c - n) * 2 := by rw [← hW]; simp
    rw [hW]
    obtain ⟨τ, hτ⟩ : ∃ τ, σ.set id (.row false (cs ++ W)) = τ := ⟨_, rfl⟩
    have hτl : τ.length = σ.length := by rw [← hτ]; simp
    have t1 : τ[id]? = some (.row false (A ++ D ++ W)) := by rw [← hτ, List.getElem?_set_self hid, hAD]
    have t2 : τ[id2]? = some (.row false [x, y]) := by rw [← hτ, List.getElem?_set_ne hne]; exact h2
    obtain ⟨R, hR⟩ : ∃ R, (A ++ D ++ W).drop ((i + 1) * 2 + D.length) = R := ⟨_, rfl⟩
    obtain ⟨U, hU⟩ : ∃ U, (D ++ W).take 2 = U := ⟨_, rfl⟩
    have hUl : U.length = 2 := by rw [← hU]; simp; omega
    rw [hτ]
    refine GCall.conv (Post0 := fun v σ' => v = .slice id 0 (n + 1) 2 (some c) ∧ σ' = τ.set id (.row false (A ++ [x, y] ++ D ++ R))) ?_ ?_
    · refine gc_slices_Insert_api_Block_api_Block ?_
      have gt : ¬ ((c : Int) < (n : Int) + 1) := by omega
      have s1 := slice_loC (id := id) (off := 0) (L := n) (c := c) (k := i) (sz := 2) (by omega) (by omega)
      have s2 := slice_hiC (id := id) (off := 0) (L := n) (c := c) (k := n + 1) (sz := 2) (by omega)
      have s3 := slice_loC (id := id) (off := 0) (L := n + 1) (c := c) (k := i + 1) (sz := 2) (by omega) (by omega)
      have s4 := slice_loC (id := id) (off := 0) (L := n + 1) (c := c) (k := i) (sz := 2) (by omega) (by omega)
      simp at s1 s2 s3 s4
      have rd1 : gread 2 (.slice id (i * 2) (n + 1 - i) 2 (some (c - i))) τ = some (D ++ W.take 2) := by
        rw [gread_at t1 (by simp only [List.length_append, hAl, hDl, hWl]; omega) (by omega), List.append_assoc, ← hAl, List.drop_left]
        rw [show (n + 1 - i) * 2 = D.length + 2 by omega, List.take_append]
        rw [List.take_of_length_le (by omega), show D.length + 2 - D.length = 2 by omega]
      have cp1 : gimp (.copy 2) [.slice id ((i + 1) * 2) (n - i) 2 (some (c - (i + 1))), .slice id (i * 2) (n + 1 - i) 2 (some (c - i))] τ = some (.int .i64 ((n - i : Nat) : Int), τ.set id (.row false (A ++ U ++ (D ++ R)))) := by
        have m1 : min (n + 1 - i) (n - i) = n - i := by omega
        have ht : (D ++ W.take 2).take ((n - i) * 2) = D := by rw [← hDl, List.take_left]
        have ho : over (A ++ D ++ W) ((i + 1) * 2) D = A ++ U ++ (D ++ R) := by
          unfold over
          rw [hR]
          have : (A ++ D ++ W).take ((i + 1) * 2) = A ++ U := by
            rw [List.append_assoc, List.take_append, List.take_of_length_le (by omega), show (i + 1) * 2 - A.length = 2 by omega, hU]
          rw [this]
        simp only [gimp, rd1, glen, m1, t1, ht]
        rw [if_neg (by omega), if_pos trivial, if_pos ⟨by simp only [List.length_append, hAl, hDl, hWl]; omega, hDf⟩, ho]
      have t3 : (τ.set id (.row false (A ++ U ++ (D ++ R))))[id]? = some (.row false (A ++ U ++ (D ++ R))) := List.getElem?_set_self (by omega)
      have rd2 : gread 2 (.slice id2 0 1 2 (some 1)) (τ.set id (.row false (A ++ U ++ (D ++ R)))) = some [x, y] := by
        rw [gread_at (by rw [List.getElem?_set_ne hne]; exact t2) (by simp) (by omega)]; rfl
      have cp2 : gimp (.copy 2) [.slice id (i * 2) (n + 1 - i) 2 (some (c - i)), .slice id2 0 1 2 (some 1)] (τ.set id (.row false (A ++ U ++ (D ++ R)))) = some (.int .i64 1, τ.set id (.row false (A ++ [x, y] ++ D ++ R))) := by
        have m1 : min 1 (n + 1 - i) = 1 := by omega
        have ho : over (A ++ U ++ (D ++ R)) (i * 2) [x, y] = A ++ [x, y] ++ D ++ R := by
          rw [List.append_assoc, ← hAl, over_end]
          have : (U ++ (D ++ R)).drop [x, y].length = D ++ R := by
            rw [show [x, y].length = U.length by rw [hUl]; rfl, List.drop_left]
          rw [this]; simp
        simp only [gimp, rd2, glen, m1, t3]
        rw [if_neg (by decide), if_pos trivial, if_pos ⟨by simp only [List.length_append, hAl, hUl, hDl]; omega, by simpa using hxy⟩]
        simp only [show ([x, y] : List DV).take (1 * 2) = [x, y] from rfl, ho, List.set_set]
        rfl
      simp [G_slices_Insert_api_Block_api_Block, genv0, List.replicate, s1, s2, hin, hin2, w1, w2, w3, gt]
      have r1 : ∃ r rs, A ++ D ++ W = r :: rs := by
        cases hh : A ++ D ++ W with
        | nil => have := congrArg List.length hh; simp [hAl, hDl] at this; omega
        | cons r rs => exact ⟨r, rs, rfl⟩
      obtain ⟨r, rs, hrs⟩ := r1
      simp [s3]
      refine ovl_ok (P := Try.prog) (size := 2) (tS := 22) (tR := 4) (e := 44) Try.func71 (by kernel_rfl) (by kernel_rfl) (by kernel_rfl) (by kernel_rfl) (by kernel_rfl) (by kernel_rfl) t2 (by rw [hrs] at t1; exact t1) hne.symm (by omega) (by omega) ?_
      simp only [List.append_assoc, List.cons_append, List.nil_append] at cp1 cp2
      simp [w2, s3, s4, cp1, cp2]
    · rintro N w0 ρ σ' w v rv hr hv ⟨rfl, rfl⟩ hle
      obtain ⟨L, a, c', hL, rfl, k1, k2, k3, k4⟩ := hv.slice_inv
      have := k3 c rfl
      subst this
      have hmv := hr.move hL (List.getElem?_set_self (by omega)) 0 (by omega) ((n + 1) * 2) (by omega)
      refine ⟨.slice σ.length 0 (n + 1) 2 none, _, _, hmv, ?_, ?_, by simp [hτl], rfl, ?_⟩
      · refine ⟨⟨fun j hj => ?_, fun _ _ _ h => h⟩, fun j M hM => ?_, Nat.le_refl _, fun _ _ _ => rfl, fun _ r hr => ⟨r, hr, rfl⟩⟩
        · exact Ren.put_other _ _ (by simp [hτl]; omega)
        · by_cases hj : j = (τ.set id (.row false (A ++ [x, y] ++ D ++ R))).length
          · subst hj
            rw [Ren.put_same] at hM; cases hM
            exact .inl ⟨id, L, hL, rfl⟩
          · rw [Ren.put_other _ _ hj] at hM; exact .inl ⟨j, M, hM, rfl⟩
      · simp only [VR]
        refine ⟨_, a, c', by rw [show σ.length = (τ.set id (.row false (A ++ [x, y] ++ D ++ R))).length by simp [hτl]]; exact Ren.put_same _ _ _, rfl, k1, fun h => by simpa using k2 h, (fun c' h => by cases h), by simpa using k4⟩
      · rw [List.set_set, ← hτ, List.set_set, hA, hD, List.drop_zero]
        congr 3
        rw [List.take_append_of_le_length (by simp [hAl, hDl]; omega), List.take_of_length_le (by simp [hAl, hDl]; omega)]
  · have hcn : c = n := by omega
    subst hcn
    have hset : σ.set id (.row false (cs ++ List.replicate ((c - c) * 2) .any)) = σ := by
      apply List.ext_getElem?
      intro j
      by_cases hj : j = id
      · subst hj; rw [List.getElem?_set_self hid, h1]; simp
      · rw [List.getElem?_set_ne (fun e => hj e.symm)]
    rw [hset]
    obtain ⟨Z, hZ⟩ : ∃ Z, gzeros [DV.bool false, DV.nils] ((c + 1 - i) * 2) = Z := ⟨_, rfl⟩
    have hZl : Z.length = (c + 1 - i) * 2 := by rw [← hZ]; exact gzeros_len _ (by simp) _
    refine GCall.conv (Post0 := fun v σ' => v = .slice σ.length 0 (c + 1) 2 none ∧ σ' = σ ++ [.row false (A ++ [x, y] ++ D)]) ?_ ?_
    · refine gc_slices_Insert_api_Block_api_Block ?_
      have s1 := slice_loC (id := id) (off := 0) (L := c) (c := c) (k := i) (sz := 2) (by omega) (Nat.le_refl _)
      have s2 := slice_hiC (id := id) (off := 0) (L := c) (c := c) (k := i) (sz := 2) (by omega)
      have gt : ((c : Int) < c + 1) := by omega
      simp at s1 s2
      have w4 : IntKind.i64.wrap ((i : Int) + 1) = ((i + 1 : Nat) : Int) := by rw [w2]; omega
      have w5 : ((c : Int) + 1 - i) = ((c + 1 - i : Nat) : Int) := by omega
      have hgo : growOk (c + 1) 32 = true := by simp [growOk]; omega
      have rd1 : gread 2 (.slice id 0 i 2 (some c)) σ = some A := by
        by_cases h0 : i = 0
        · subst h0
          rw [gread_at0]; simp at hA; rw [← hA]
        · rw [gread_at h1 (by omega) (by omega)]; simp [hA]
      have haz : gimp (.appendz 2 32 [.bool false, .nils]) [.slice id 0 i 2 (some c), .int .i64 ((c : Int) + 1 - i)] σ = some (.slice σ.length 0 (c + 1) 2 none, σ ++ [.row false (A ++ Z)]) := by
        have e1 : (0 : Int) < (c : Int) + 1 - i := by omega
        have e2 : i + ((c : Int) + 1 - i).toNat = c + 1 := by omega
        have e3 : ((c : Int) + 1 - i).toNat * 2 = (c + 1 - i) * 2 := by omega
        simp only [gimp]
        rw [if_pos ⟨trivial, e1, by omega, by rw [e2]; exact hgo⟩, rd1]
        simp only
        rw [e2, e3, hZ]
      have hrow1 : (σ ++ [GObj.row false (A ++ Z)])[σ.length]? = some (.row false (A ++ Z)) := by simp
      have s3 := slice_loN (id := σ.length) (off := 0) (L := c + 1) (k := i) (sz := 2) (by omega)
      have s4 := slice_loN (id := σ.length) (off := 0) (L := c + 1) (k := i + 1) (sz := 2) (by omega)
      simp at s3 s4
      have rd2 : gread 2 (.slice id2 0 1 2 (some 1)) (σ ++ [GObj.row false (A ++ Z)]) = some [x, y] := by
        rw [gread_at (getE_append h2) (by simp) (by omega)]; rfl
      have cp1 : gimp (.copy 2) [.slice σ.length (i * 2) (c + 1 - i) 2 none, .slice id2 0 1 2 (some 1)] (σ ++ [.row false (A ++ Z)]) = some (.int .i64 1, σ ++ [.row false (A ++ [x, y] ++ Z.drop 2)]) := by
        have m1 : min 1 (c + 1 - i) = 1 := by omega
        have ho : over (A ++ Z) (i * 2) [x, y] = A ++ [x, y] ++ Z.drop 2 := by rw [← hAl]; exact over_end
        simp only [gimp, rd2, glen, m1, hrow1]
        rw [if_neg (by decide), if_pos trivial, if_pos ⟨by simp only [List.length_append, hAl, hZl]; omega, by simpa using hxy⟩]
        simp only [show ([x, y] : List DV).take (1 * 2) = [x, y] from rfl, ho]
        rw [List.set_append_right _ _ (Nat.le_refl _)]
        simp
      have hrow2 : (σ ++ [GObj.row false (A ++ [x, y] ++ Z.drop 2)])[σ.length]? = some (.row false (A ++ [x, y] ++ Z.drop 2)) := by simp
      have rd3 : gread 2 (.slice id (i * 2) (c - i) 2 (some (c - i))) (σ ++ [GObj.row false (A ++ [x, y] ++ Z.drop 2)]) = some D := by
        rw [gread_at (getE_append h1) (by omega) (by omega), hD, List.take_of_length_le (by omega)]
      have cp2 : gimp (.copy 2) [.slice σ.length ((i + 1) * 2) (c - i) 2 none, .slice id (i * 2) (c - i) 2 (some (c - i))] (σ ++ [.row false (A ++ [x, y] ++ Z.drop 2)]) = some (.int .i64 ((c - i : Nat) : Int), σ ++ [.row false (A ++ [x, y] ++ D)]) := by
        have ho : over (A ++ [x, y] ++ Z.drop 2) ((i + 1) * 2) D = A ++ [x, y] ++ D := by
          have e : (i + 1) * 2 = (A ++ [x, y]).length := by simp [hAl]; omega
          rw [e, over_end]
          have : (Z.drop 2).drop D.length = [] := by rw [List.drop_drop, List.drop_eq_nil_of_le (by omega)]
          rw [this, List.append_nil]
        simp only [gimp, rd3, glen, Nat.min_self, hrow2]
        rw [if_neg (by omega), if_pos trivial, if_pos ⟨by simp [hAl, hZl]; omega, by rw [List.take_of_length_le (by omega)]; exact hDf⟩]
        rw [List.take_of_length_le (show D.length ≤ (c - i) * 2 by omega), ho]
        simp
      simp only [List.append_assoc, List.cons_append, List.nil_append] at cp1 cp2
      simp [G_slices_Insert_api_Block_api_Block, genv0, List.replicate, s1, s2, hin, hin2, w1, w2, w3, gt, haz, s3, cp1, s4, cp2]
    · rintro N w0 ρ σ' w v rv hr hv ⟨rfl, rfl⟩ hle
      refine ⟨_, _, ρ, hr.kill id, Ext.refl _ _ _, hv, by simp, rfl, ?_⟩
      rw [List.set_append_left _ _ hid, hA, hD]
end Go.Gh
namespace Go.Gh
open Go.RowKit Go.Proofs
set_option linter.unusedVariables false
set_option linter.unusedSimpArgs false
set_option maxRecDepth 100000
/-- What slices.Insert does to a copy of a prefix, for the evaluator. -/
noncomputable def insH (args : List DV) (σ : HT) : Option (DV × HT) :=
  match args with
  | [.slice id off n sz none, .int k i, .slice id2 off2 m sz2 (some c2)] => match σ.get id, σ.get id2 with
    | some (.obj (.row false cs)), some (.obj (.row false [x, y])) =>
      if k = .i64 ∧ off = 0 ∧ sz = 2 ∧ off2 = 0 ∧ m = 1 ∧ sz2 = 2 ∧ c2 = 1 ∧ id ≠ id2 ∧ 0 ≤ i ∧ i.toNat < n ∧ n < 1000000 ∧ cs.length = n * 2 ∧ cs.all DV.flat = true ∧ x.flat = true ∧ y.flat = true then
        match (σ.set id (.obj .dead)).push (.obj (.row false (cs.take (i.toNat * 2) ++ [x, y] ++ cs.drop (i.toNat * 2)))) with
        | some σ' => some (.slice σ.n 0 (n + 1) 2 none, σ')
        | none => none
      else none
    | _, _ => none
  | _ => none
noncomputable def insX (f : FuncId) (args : List DV) (σ : HT) : Option (DV × HT) := if f = F_slices_Insert_api_Block_api_Block then insH args σ else none
theorem insX_ok (f : FuncId) (args : List DV) (σ : HT) (v : DV) (σ' : HT) (h : insX f args σ = some (v, σ')) : GCall Try.prog f args (den σ) fun a b => a = v ∧ b = den σ' := by
  unfold insX at h
  split at h
  rotate_left
  · cases h
  rename_i hf
  subst hf
  unfold insH at h
  split at h
  rotate_left
  · cases h
  rename_i id off n sz k i id2 off2 m sz2 c2
  split at h
  rotate_left
  · cases h
  rename_i cs x y g1 g2
  split at h
  rotate_left
  · cases h
  rename_i hc
  obtain ⟨rfl, rfl, rfl, rfl, rfl, rfl, rfl, hne, hi0, hin, hn, hl, hf, hx, hy⟩ := hc
  split at h
  rotate_left
  · cases h
  rename_i σ1 hp
  cases h
  obtain ⟨p1, p2⟩ := den_push hp
  rw [den_set] at p1 p2
  have hlen : σ.n = (den σ).length := by
    have e : (σ.set id (.obj .dead)).n = σ.n := by unfold HT.set; split <;> rfl
    rw [← e, p2]; simp
  obtain ⟨j, rfl⟩ : ∃ j : Nat, i = j := ⟨i.toNat, by omega⟩
  simp only [Int.toNat_natCast] at hin p1 ⊢
  refine (insert_run (den_at g1) hl (den_at g2) hne hin (by omega) hf hx hy).mono ?_
  rintro a b ⟨rfl, rfl⟩
  exact ⟨by rw [hlen], by rw [p1]; rfl⟩
/-- A closed call answers true, with the oracle's help. -/
noncomputable def sayTrueX (P : Program) (X : FuncId → List DV → HT → Option (DV × HT)) (n : Nat) (f : FuncId) (args : List DV) : Bool :=
  match (evAllX P (tabOf P) X n).call f args ⟨0, .e⟩ with
  | some (.bool true, _) => true
  | _ => false
theorem sayTrueX_ok {P : Program} (hm : P.follows .mixedOrders = true) {X : FuncId → List DV → HT → Option (DV × HT)} (hX : ∀ f args σ v σ', X f args σ = some (v, σ') → GCall P f args (den σ) fun a b => a = v ∧ b = den σ') {n : Nat} {f : FuncId} {args : List DV} (h : sayTrueX P X n f args = true) : GCall P f args [] fun v _ => v = .bool true := by
  unfold sayTrueX at h
  split at h
  · rename_i s he
    have := (evAllX_ok hm (tabOf_ok P) hX n).call f args ⟨0, .e⟩ _ _ he
    rw [show den ⟨0, .e⟩ = [] by simp [den]] at this
    exact this.mono fun v σ' hh => hh.1
  · cases h
end Go.Gh
namespace Go.Gh
open Go.Proofs
set_option maxRecDepth 100000
theorem head_run : sayTrueX Try.prog insX 60 8 [] = true := by kernel_rfl
theorem head_ok {σ : GS} {Post : DV → GS → Prop} (k : Post (.bool true) σ) : GCall Try.prog 8 [] σ Post :=
  GCall.closed (sayTrueX_ok seatfollows insX_ok head_run) k
end Go.Gh
namespace Go.Gh
open Go.Proofs
abbrev F_skolemlaw03_wide : Nat := 7
abbrev F_skolemlaw03_head : Nat := 8
abbrev F_skolemref03_Ints : Nat := 18
abbrev F_skolemref03_Lists : Nat := 50
noncomputable abbrev G_skolemlaw03_wide : GFun := ⟨45, [(.tmp 6)], (.seq (.region [⟨0, ⟨(some 6), none, (.pure .id), [(.const (.bool false))]⟩, []⟩]) (.seq (.region [⟨0, ⟨(some 10), none, (.pure .id), [(.tmp 0)]⟩, []⟩, ⟨0, ⟨(some 11), none, (.pure .len), [(.tmp 10)]⟩, []⟩, ⟨0, ⟨(some 12), none, (.pure .id), [(.tmp 1)]⟩, []⟩, ⟨0, ⟨(some 13), none, (.pure .len), [(.tmp 12)]⟩, []⟩, ⟨0, ⟨(some 14), none, (.pure (.bin .add .none)), [(.tmp 11), (.tmp 13)]⟩, []⟩, ⟨0, ⟨(some 7), none, (.pure .id), [(.tmp 14)]⟩, []⟩]) (.seq (.seq (.region [⟨0, ⟨(some 8), none, (.pure .id), [(.const (.int .i64 0))]⟩, []⟩]) (.block 0 (.loop (.seq (.seq (.region [⟨0, ⟨(some 15), none, (.pure .id), [(.tmp 8)]⟩, []⟩, ⟨0, ⟨(some 16), none, (.pure .id), [(.tmp 0)]⟩, []⟩, ⟨0, ⟨(some 17), none, (.pure .len), [(.tmp 16)]⟩, []⟩, ⟨0, ⟨(some 18), none, (.pure (.bin .lss .none)), [(.tmp 15), (.tmp 17)]⟩, []⟩]) (.cond (.tmp 18) .skip (.exit 0))) (.seq (.block 1 (.region [⟨0, ⟨(some 21), none, (.pure .id), [(.tmp 7)]⟩, []⟩, ⟨0, ⟨(some 22), none, (.pure .id), [(.tmp 0)]⟩, []⟩, ⟨0, ⟨(some 23), none, (.pure .id), [(.tmp 8)]⟩, []⟩, ⟨0, ⟨(some 24), none, (.pure (.iaddr 2)), [(.tmp 22), (.tmp 23)]⟩, []⟩, ⟨0, ⟨(some 25), none, (.pure (.faddr 1)), [(.tmp 24)]⟩, []⟩, ⟨0, ⟨(some 26), none, (.load (.load 1 false)), [(.tmp 25)]⟩, []⟩, ⟨0, ⟨(some 27), none, (.pure .len), [(.tmp 26)]⟩, []⟩, ⟨0, ⟨(some 28), none, (.pure (.bin .add .none)), [(.tmp 21), (.tmp 27)]⟩, []⟩, ⟨0, ⟨(some 7), none, (.pure .id), [(.tmp 28)]⟩, []⟩])) (.region [⟨0, ⟨(some 19), none, (.pure .id), [(.tmp 8)]⟩, []⟩, ⟨0, ⟨(some 20), none, (.pure (.bin .add .none)), [(.tmp 19), (.const (.int .i64 1))]⟩, []⟩, ⟨0, ⟨(some 8), none, (.pure .id), [(.tmp 20)]⟩, []⟩])))))) (.seq (.seq (.region [⟨0, ⟨(some 9), none, (.pure .id), [(.const (.int .i64 0))]⟩, []⟩]) (.block 2 (.loop (.seq (.seq (.region [⟨0, ⟨(some 29), none, (.pure .id), [(.tmp 9)]⟩, []⟩, ⟨0, ⟨(some 30), none, (.pure .id), [(.tmp 1)]⟩, []⟩, ⟨0, ⟨(some 31), none, (.pure .len), [(.tmp 30)]⟩, []⟩, ⟨0, ⟨(some 32), none, (.pure (.bin .lss .none)), [(.tmp 29), (.tmp 31)]⟩, []⟩]) (.cond (.tmp 32) .skip (.exit 2))) (.seq (.block 3 (.region [⟨0, ⟨(some 35), none, (.pure .id), [(.tmp 7)]⟩, []⟩, ⟨0, ⟨(some 36), none, (.pure .id), [(.tmp 1)]⟩, []⟩, ⟨0, ⟨(some 37), none, (.pure .id), [(.tmp 9)]⟩, []⟩, ⟨0, ⟨(some 38), none, (.pure (.iaddr 1)), [(.tmp 36), (.tmp 37)]⟩, []⟩, ⟨0, ⟨(some 39), none, (.load (.load 1 false)), [(.tmp 38)]⟩, []⟩, ⟨0, ⟨(some 40), none, (.pure .len), [(.tmp 39)]⟩, []⟩, ⟨0, ⟨(some 41), none, (.pure (.bin .add .none)), [(.tmp 35), (.tmp 40)]⟩, []⟩, ⟨0, ⟨(some 7), none, (.pure .id), [(.tmp 41)]⟩, []⟩])) (.region [⟨0, ⟨(some 33), none, (.pure .id), [(.tmp 9)]⟩, []⟩, ⟨0, ⟨(some 34), none, (.pure (.bin .add .none)), [(.tmp 33), (.const (.int .i64 1))]⟩, []⟩, ⟨0, ⟨(some 9), none, (.pure .id), [(.tmp 34)]⟩, []⟩])))))) (.seq (.region [⟨0, ⟨(some 42), none, (.pure .id), [(.tmp 7)]⟩, []⟩, ⟨0, ⟨(some 43), none, (.pure .id), [(.tmp 2)]⟩, []⟩, ⟨0, ⟨(some 44), none, (.pure (.bin .gtr .none)), [(.tmp 42), (.tmp 43)]⟩, []⟩, ⟨0, ⟨(some 6), none, (.pure .id), [(.tmp 44)]⟩, []⟩]) .ret)))))⟩
theorem c_skolemlaw03_wide : compF Try.prog Try.f7 = some G_skolemlaw03_wide := by kernel_rfl
theorem gc_skolemlaw03_wide {args : List DV} {σ : GS} {Post : DV → GS → Prop} (h : @exB Try.prog ⟨G_skolemlaw03_wide.body⟩ (genv0 args G_skolemlaw03_wide.ntmps) σ ⟨@gretB G_skolemlaw03_wide.results ⟨Post⟩⟩) : GCall Try.prog F_skolemlaw03_wide args σ Post := gcall_ofB seatfollows Try.func7 (by kernel_rfl) c_skolemlaw03_wide h
noncomputable abbrev G_skolemref03_Ints : GFun := ⟨26, [(.tmp 4)], (.seq (.region [⟨0, ⟨(some 4), none, (.pure .id), [(.const (.bool false))]⟩, []⟩]) (.seq (.seq (.region [⟨0, ⟨(some 6), none, (.pure .id), [(.tmp 0)]⟩, []⟩, ⟨0, ⟨(some 7), none, (.pure .len), [(.tmp 6)]⟩, []⟩, ⟨0, ⟨(some 8), none, (.pure .id), [(.tmp 1)]⟩, []⟩, ⟨0, ⟨(some 9), none, (.pure .len), [(.tmp 8)]⟩, []⟩, ⟨0, ⟨(some 10), none, (.pure (.bin .neq .none)), [(.tmp 7), (.tmp 9)]⟩, []⟩]) (.cond (.tmp 10) (.seq (.region [⟨0, ⟨(some 4), none, (.pure .id), [(.const (.bool false))]⟩, []⟩]) .ret) .skip)) (.seq (.seq (.region [⟨0, ⟨(some 5), none, (.pure .id), [(.const (.int .i64 0))]⟩, []⟩]) (.block 0 (.loop (.seq (.seq (.region [⟨0, ⟨(some 11), none, (.pure .id), [(.tmp 5)]⟩, []⟩, ⟨0, ⟨(some 12), none, (.pure .id), [(.tmp 0)]⟩, []⟩, ⟨0, ⟨(some 13), none, (.pure .len), [(.tmp 12)]⟩, []⟩, ⟨0, ⟨(some 14), none, (.pure (.bin .lss .none)), [(.tmp 11), (.tmp 13)]⟩, []⟩]) (.cond (.tmp 14) .skip (.exit 0))) (.seq (.block 1 (.seq (.region [⟨0, ⟨(some 17), none, (.pure .id), [(.tmp 0)]⟩, []⟩, ⟨1, ⟨(some 18), none, (.pure .id), [(.tmp 5)]⟩, []⟩, ⟨2, ⟨(some 19), none, (.pure (.iaddr 1)), [(.tmp 17), (.tmp 18)]⟩, []⟩, ⟨3, ⟨(some 20), none, (.load (.load 1 false)), [(.tmp 19)]⟩, []⟩, ⟨4, ⟨(some 21), none, (.pure .id), [(.tmp 1)]⟩, []⟩, ⟨5, ⟨(some 22), none, (.pure .id), [(.tmp 5)]⟩, []⟩, ⟨6, ⟨(some 23), none, (.pure (.iaddr 1)), [(.tmp 21), (.tmp 22)]⟩, []⟩, ⟨7, ⟨(some 24), none, (.load (.load 1 false)), [(.tmp 23)]⟩, []⟩, ⟨8, ⟨(some 25), none, (.pure (.bin .neq .none)), [(.tmp 20), (.tmp 24)]⟩, []⟩]) (.cond (.tmp 25) (.seq (.region [⟨0, ⟨(some 4), none, (.pure .id), [(.const (.bool false))]⟩, []⟩]) .ret) .skip))) (.region [⟨0, ⟨(some 15), none, (.pure .id), [(.tmp 5)]⟩, []⟩, ⟨0, ⟨(some 16), none, (.pure (.bin .add .none)), [(.tmp 15), (.const (.int .i64 1))]⟩, []⟩, ⟨0, ⟨(some 5), none, (.pure .id), [(.tmp 16)]⟩, []⟩])))))) (.seq (.region [⟨0, ⟨(some 4), none, (.pure .id), [(.const (.bool true))]⟩, []⟩]) .ret))))⟩
theorem c_skolemref03_Ints : compF Try.prog Try.f18 = some G_skolemref03_Ints := by kernel_rfl
theorem gc_skolemref03_Ints {args : List DV} {σ : GS} {Post : DV → GS → Prop} (h : @exB Try.prog ⟨G_skolemref03_Ints.body⟩ (genv0 args G_skolemref03_Ints.ntmps) σ ⟨@gretB G_skolemref03_Ints.results ⟨Post⟩⟩) : GCall Try.prog F_skolemref03_Ints args σ Post := gcall_ofB seatfollows Try.func18 (by kernel_rfl) c_skolemref03_Ints h
noncomputable abbrev G_skolemref03_Lists : GFun := ⟨27, [(.tmp 4)], (.seq (.region [⟨0, ⟨(some 4), none, (.pure .id), [(.const (.bool false))]⟩, []⟩]) (.seq (.seq (.region [⟨0, ⟨(some 6), none, (.pure .id), [(.tmp 0)]⟩, []⟩, ⟨0, ⟨(some 7), none, (.pure .len), [(.tmp 6)]⟩, []⟩, ⟨0, ⟨(some 8), none, (.pure .id), [(.tmp 1)]⟩, []⟩, ⟨0, ⟨(some 9), none, (.pure .len), [(.tmp 8)]⟩, []⟩, ⟨0, ⟨(some 10), none, (.pure (.bin .neq .none)), [(.tmp 7), (.tmp 9)]⟩, []⟩]) (.cond (.tmp 10) (.seq (.region [⟨0, ⟨(some 4), none, (.pure .id), [(.const (.bool false))]⟩, []⟩]) .ret) .skip)) (.seq (.seq (.region [⟨0, ⟨(some 5), none, (.pure .id), [(.const (.int .i64 0))]⟩, []⟩]) (.block 0 (.loop (.seq (.seq (.region [⟨0, ⟨(some 11), none, (.pure .id), [(.tmp 5)]⟩, []⟩, ⟨0, ⟨(some 12), none, (.pure .id), [(.tmp 0)]⟩, []⟩, ⟨0, ⟨(some 13), none, (.pure .len), [(.tmp 12)]⟩, []⟩, ⟨0, ⟨(some 14), none, (.pure (.bin .lss .none)), [(.tmp 11), (.tmp 13)]⟩, []⟩]) (.cond (.tmp 14) .skip (.exit 0))) (.seq (.block 1 (.seq (.region [⟨0, ⟨(some 17), none, (.pure .id), [(.tmp 0)]⟩, []⟩, ⟨1, ⟨(some 18), none, (.pure .id), [(.tmp 5)]⟩, []⟩, ⟨2, ⟨(some 19), none, (.pure (.iaddr 1)), [(.tmp 17), (.tmp 18)]⟩, []⟩, ⟨3, ⟨(some 20), none, (.load (.load 1 false)), [(.tmp 19)]⟩, []⟩, ⟨4, ⟨(some 21), none, (.pure .id), [(.tmp 1)]⟩, []⟩, ⟨5, ⟨(some 22), none, (.pure .id), [(.tmp 5)]⟩, []⟩, ⟨6, ⟨(some 23), none, (.pure (.iaddr 1)), [(.tmp 21), (.tmp 22)]⟩, []⟩, ⟨7, ⟨(some 24), none, (.load (.load 1 false)), [(.tmp 23)]⟩, []⟩, ⟨8, ⟨(some 25), none, (.call F_skolemref03_Ints), [(.tmp 20), (.tmp 24)]⟩, []⟩, ⟨9, ⟨(some 26), none, (.pure (.un .not)), [(.tmp 25)]⟩, []⟩]) (.cond (.tmp 26) (.seq (.region [⟨0, ⟨(some 4), none, (.pure .id), [(.const (.bool false))]⟩, []⟩]) .ret) .skip))) (.region [⟨0, ⟨(some 15), none, (.pure .id), [(.tmp 5)]⟩, []⟩, ⟨0, ⟨(some 16), none, (.pure (.bin .add .none)), [(.tmp 15), (.const (.int .i64 1))]⟩, []⟩, ⟨0, ⟨(some 5), none, (.pure .id), [(.tmp 16)]⟩, []⟩])))))) (.seq (.region [⟨0, ⟨(some 4), none, (.pure .id), [(.const (.bool true))]⟩, []⟩]) .ret))))⟩
theorem c_skolemref03_Lists : compF Try.prog Try.f50 = some G_skolemref03_Lists := by kernel_rfl
theorem gc_skolemref03_Lists {args : List DV} {σ : GS} {Post : DV → GS → Prop} (h : @exB Try.prog ⟨G_skolemref03_Lists.body⟩ (genv0 args G_skolemref03_Lists.ntmps) σ ⟨@gretB G_skolemref03_Lists.results ⟨Post⟩⟩) : GCall Try.prog F_skolemref03_Lists args σ Post := gcall_ofB seatfollows Try.func50 (by kernel_rfl) c_skolemref03_Lists h
end Go.Gh
namespace Go.Gh
open Go.Proofs
abbrev F_skolemref03_Flat : Nat := 9
abbrev F_prefix_Join : Nat := 10
abbrev F_skolemref03_Same : Nat := 16
abbrev F_skolemref03_May : Nat := 19
abbrev F_skolemref03_Has : Nat := 22
abbrev F_skolemref03_Abs : Nat := 24
abbrev F_prefix_May : Nat := 29
abbrev F_prefix_count : Nat := 33
abbrev F_prefix_joined : Nat := 34
abbrev F_skolemref03_single : Nat := 35
abbrev F_slices_DeleteFunc_int_int : Nat := 37
abbrev F_slices_Clone_int_int : Nat := 38
abbrev F_prefix_places : Nat := 42
abbrev F_prefix_abs : Nat := 43
abbrev F_slices_Sort_int_int : Nat := 44
abbrev F_prefix_each : Nat := 67
abbrev F_slices_IndexFunc_int_int : Nat := 68
abbrev F_prefix_each_1 : Nat := 82
noncomputable abbrev G_skolemref03_Flat : GFun := ⟨19, [(.tmp 2)], (.seq (.region [⟨0, ⟨(some 2), none, (.pure .id), [(.const .nils)]⟩, []⟩]) (.seq (.region [⟨0, ⟨(some 3), none, (.pure .id), [(.const .nils)]⟩, []⟩]) (.seq (.seq (.region [⟨0, ⟨(some 4), none, (.pure .id), [(.const (.int .i64 0))]⟩, []⟩]) (.block 0 (.loop (.seq (.seq (.region [⟨0, ⟨(some 5), none, (.pure .id), [(.tmp 4)]⟩, []⟩, ⟨0, ⟨(some 6), none, (.pure .id), [(.tmp 0)]⟩, []⟩, ⟨0, ⟨(some 7), none, (.pure .len), [(.tmp 6)]⟩, []⟩, ⟨0, ⟨(some 8), none, (.pure (.bin .lss .none)), [(.tmp 5), (.tmp 7)]⟩, []⟩]) (.cond (.tmp 8) .skip (.exit 0))) (.seq (.block 1 (.region [⟨0, ⟨(some 11), none, (.pure .id), [(.tmp 3)]⟩, []⟩, ⟨0, ⟨(some 12), none, (.pure .id), [(.tmp 0)]⟩, []⟩, ⟨0, ⟨(some 13), none, (.pure .id), [(.tmp 4)]⟩, []⟩, ⟨0, ⟨(some 14), none, (.pure (.iaddr 2)), [(.tmp 12), (.tmp 13)]⟩, []⟩, ⟨0, ⟨(some 15), none, (.pure (.faddr 1)), [(.tmp 14)]⟩, []⟩, ⟨0, ⟨(some 16), none, (.load (.load 1 false)), [(.tmp 15)]⟩, []⟩, ⟨0, ⟨(some 17), none, (.imp (.append 1 8)), [(.tmp 11), (.tmp 16)]⟩, []⟩, ⟨0, ⟨(some 3), none, (.pure .id), [(.tmp 17)]⟩, []⟩])) (.region [⟨0, ⟨(some 9), none, (.pure .id), [(.tmp 4)]⟩, []⟩, ⟨0, ⟨(some 10), none, (.pure (.bin .add .none)), [(.tmp 9), (.const (.int .i64 1))]⟩, []⟩, ⟨0, ⟨(some 4), none, (.pure .id), [(.tmp 10)]⟩, []⟩])))))) (.seq (.region [⟨0, ⟨(some 18), none, (.pure .id), [(.tmp 3)]⟩, []⟩, ⟨0, ⟨(some 2), none, (.pure .id), [(.tmp 18)]⟩, []⟩]) .ret))))⟩
theorem c_skolemref03_Flat : compF Try.prog Try.f9 = some G_skolemref03_Flat := by kernel_rfl
theorem gc_skolemref03_Flat {args : List DV} {σ : GS} {Post : DV → GS → Prop} (h : @exB Try.prog ⟨G_skolemref03_Flat.body⟩ (genv0 args G_skolemref03_Flat.ntmps) σ ⟨@gretB G_skolemref03_Flat.results ⟨Post⟩⟩) : GCall Try.prog F_skolemref03_Flat args σ Post := gcall_ofB seatfollows Try.func9 (by kernel_rfl) c_skolemref03_Flat h
noncomputable abbrev G_skolemref03_Has : GFun := ⟨18, [(.tmp 4)], (.seq (.region [⟨0, ⟨(some 4), none, (.pure .id), [(.const (.bool false))]⟩, []⟩]) (.seq (.seq (.region [⟨0, ⟨(some 5), none, (.pure .id), [(.const (.int .i64 0))]⟩, []⟩]) (.block 0 (.loop (.seq (.seq (.region [⟨0, ⟨(some 6), none, (.pure .id), [(.tmp 5)]⟩, []⟩, ⟨0, ⟨(some 7), none, (.pure .id), [(.tmp 0)]⟩, []⟩, ⟨0, ⟨(some 8), none, (.pure .len), [(.tmp 7)]⟩, []⟩, ⟨0, ⟨(some 9), none, (.pure (.bin .lss .none)), [(.tmp 6), (.tmp 8)]⟩, []⟩]) (.cond (.tmp 9) .skip (.exit 0))) (.seq (.block 1 (.seq (.region [⟨0, ⟨(some 12), none, (.pure .id), [(.tmp 0)]⟩, []⟩, ⟨0, ⟨(some 13), none, (.pure .id), [(.tmp 5)]⟩, []⟩, ⟨0, ⟨(some 14), none, (.pure (.iaddr 1)), [(.tmp 12), (.tmp 13)]⟩, []⟩, ⟨0, ⟨(some 15), none, (.load (.load 1 false)), [(.tmp 14)]⟩, []⟩, ⟨0, ⟨(some 16), none, (.pure .id), [(.tmp 1)]⟩, []⟩, ⟨0, ⟨(some 17), none, (.pure (.bin .eql .none)), [(.tmp 15), (.tmp 16)]⟩, []⟩]) (.cond (.tmp 17) (.seq (.region [⟨0, ⟨(some 4), none, (.pure .id), [(.const (.bool true))]⟩, []⟩]) .ret) .skip))) (.region [⟨0, ⟨(some 10), none, (.pure .id), [(.tmp 5)]⟩, []⟩, ⟨0, ⟨(some 11), none, (.pure (.bin .add .none)), [(.tmp 10), (.const (.int .i64 1))]⟩, []⟩, ⟨0, ⟨(some 5), none, (.pure .id), [(.tmp 11)]⟩, []⟩])))))) (.seq (.region [⟨0, ⟨(some 4), none, (.pure .id), [(.const (.bool false))]⟩, []⟩]) .ret)))⟩
theorem c_skolemref03_Has : compF Try.prog Try.f22 = some G_skolemref03_Has := by kernel_rfl
theorem gc_skolemref03_Has {args : List DV} {σ : GS} {Post : DV → GS → Prop} (h : @exB Try.prog ⟨G_skolemref03_Has.body⟩ (genv0 args G_skolemref03_Has.ntmps) σ ⟨@gretB G_skolemref03_Has.results ⟨Post⟩⟩) : GCall Try.prog F_skolemref03_Has args σ Post := gcall_ofB seatfollows Try.func22 (by kernel_rfl) c_skolemref03_Has h
noncomputable abbrev G_skolemref03_single : GFun := ⟨32, [(.tmp 2)], (.seq (.region [⟨0, ⟨(some 2), none, (.pure .id), [(.const (.bool false))]⟩, []⟩]) (.seq (.seq (.region [⟨0, ⟨(some 3), none, (.pure .id), [(.const (.int .i64 0))]⟩, []⟩]) (.block 0 (.loop (.seq (.seq (.region [⟨0, ⟨(some 4), none, (.pure .id), [(.tmp 3)]⟩, []⟩, ⟨0, ⟨(some 5), none, (.pure .id), [(.tmp 0)]⟩, []⟩, ⟨0, ⟨(some 6), none, (.pure .len), [(.tmp 5)]⟩, []⟩, ⟨0, ⟨(some 7), none, (.pure (.bin .lss .none)), [(.tmp 4), (.tmp 6)]⟩, []⟩]) (.cond (.tmp 7) .skip (.exit 0))) (.seq (.block 1 (.seq (.region [⟨0, ⟨(some 10), none, (.pure .id), [(.tmp 0)]⟩, []⟩, ⟨1, ⟨(some 11), none, (.pure .id), [(.tmp 3)]⟩, []⟩, ⟨2, ⟨(some 12), none, (.pure (.iaddr 1)), [(.tmp 10), (.tmp 11)]⟩, []⟩, ⟨3, ⟨(some 13), none, (.load (.load 1 false)), [(.tmp 12)]⟩, []⟩, ⟨4, ⟨(some 14), none, (.pure (.bin .lss .none)), [(.tmp 13), (.const (.int .i64 1))]⟩, []⟩, ⟨5, ⟨(some 15), none, (.pure .id), [(.tmp 14)]⟩, []⟩, ⟨6, ⟨(some 16), (some (15, false)), (.pure .id), [(.tmp 0)]⟩, []⟩, ⟨7, ⟨(some 17), (some (15, false)), (.pure .id), [(.tmp 3)]⟩, []⟩, ⟨8, ⟨(some 18), (some (15, false)), (.pure (.iaddr 1)), [(.tmp 16), (.tmp 17)]⟩, []⟩, ⟨9, ⟨(some 19), (some (15, false)), (.load (.load 1 false)), [(.tmp 18)]⟩, []⟩, ⟨10, ⟨(some 20), (some (15, false)), (.pure (.bin .gtr .none)), [(.tmp 19), (.const (.int .i64 65536))]⟩, []⟩, ⟨11, ⟨(some 21), none, (.pure .pick), [(.tmp 15), (.const (.bool true)), (.tmp 20)]⟩, []⟩, ⟨12, ⟨(some 22), none, (.pure .id), [(.tmp 21)]⟩, []⟩, ⟨13, ⟨(some 23), (some (22, false)), (.pure .id), [(.tmp 0)]⟩, []⟩, ⟨14, ⟨(some 24), (some (22, false)), (.pure .id), [(.tmp 3)]⟩, []⟩, ⟨15, ⟨(some 25), (some (22, false)), (.pure (.slice 1 false true false)), [(.tmp 23), (.tmp 24)]⟩, []⟩, ⟨16, ⟨(some 26), (some (22, false)), (.pure .id), [(.tmp 0)]⟩, []⟩, ⟨17, ⟨(some 27), (some (22, false)), (.pure .id), [(.tmp 3)]⟩, []⟩, ⟨18, ⟨(some 28), (some (22, false)), (.pure (.iaddr 1)), [(.tmp 26), (.tmp 27)]⟩, []⟩, ⟨19, ⟨(some 29), (some (22, false)), (.load (.load 1 false)), [(.tmp 28)]⟩, []⟩, ⟨20, ⟨(some 30), (some (22, false)), (.call F_skolemref03_Has), [(.tmp 25), (.tmp 29)]⟩, []⟩, ⟨21, ⟨(some 31), none, (.pure .pick), [(.tmp 22), (.const (.bool true)), (.tmp 30)]⟩, []⟩]) (.cond (.tmp 31) (.seq (.region [⟨0, ⟨(some 2), none, (.pure .id), [(.const (.bool false))]⟩, []⟩]) .ret) .skip))) (.region [⟨0, ⟨(some 8), none, (.pure .id), [(.tmp 3)]⟩, []⟩, ⟨0, ⟨(some 9), none, (.pure (.bin .add .none)), [(.tmp 8), (.const (.int .i64 1))]⟩, []⟩, ⟨0, ⟨(some 3), none, (.pure .id), [(.tmp 9)]⟩, []⟩])))))) (.seq (.region [⟨0, ⟨(some 2), none, (.pure .id), [(.const (.bool true))]⟩, []⟩]) .ret)))⟩
theorem c_skolemref03_single : compF Try.prog Try.f35 = some G_skolemref03_single := by kernel_rfl
theorem gc_skolemref03_single {args : List DV} {σ : GS} {Post : DV → GS → Prop} (h : @exB Try.prog ⟨G_skolemref03_single.body⟩ (genv0 args G_skolemref03_single.ntmps) σ ⟨@gretB G_skolemref03_single.results ⟨Post⟩⟩) : GCall Try.prog F_skolemref03_single args σ Post := gcall_ofB seatfollows Try.func35 (by kernel_rfl) c_skolemref03_single h
noncomputable abbrev G_skolemref03_May : GFun := ⟨45, [(.tmp 2)], (.seq (.region [⟨0, ⟨(some 2), none, (.pure .id), [(.const (.bool false))]⟩, []⟩]) (.seq (.seq (.region [⟨0, ⟨(some 3), none, (.pure .id), [(.const (.int .i64 0))]⟩, []⟩]) (.block 0 (.loop (.seq (.seq (.region [⟨0, ⟨(some 5), none, (.pure .id), [(.tmp 3)]⟩, []⟩, ⟨0, ⟨(some 6), none, (.pure .id), [(.tmp 0)]⟩, []⟩, ⟨0, ⟨(some 7), none, (.pure .len), [(.tmp 6)]⟩, []⟩, ⟨0, ⟨(some 8), none, (.pure (.bin .lss .none)), [(.tmp 5), (.tmp 7)]⟩, []⟩]) (.cond (.tmp 8) .skip (.exit 0))) (.seq (.block 1 (.seq (.region [⟨0, ⟨(some 11), none, (.pure .id), [(.tmp 0)]⟩, []⟩, ⟨1, ⟨(some 12), none, (.pure .id), [(.tmp 3)]⟩, []⟩, ⟨2, ⟨(some 13), none, (.pure (.iaddr 2)), [(.tmp 11), (.tmp 12)]⟩, []⟩, ⟨3, ⟨(some 14), none, (.pure (.faddr 1)), [(.tmp 13)]⟩, []⟩, ⟨4, ⟨(some 15), none, (.load (.load 1 false)), [(.tmp 14)]⟩, []⟩, ⟨5, ⟨(some 16), none, (.pure .len), [(.tmp 15)]⟩, []⟩, ⟨6, ⟨(some 17), none, (.pure (.bin .eql .none)), [(.tmp 16), (.const (.int .i64 0))]⟩, []⟩, ⟨7, ⟨(some 18), none, (.pure .id), [(.tmp 17)]⟩, []⟩, ⟨8, ⟨(some 19), (some (18, false)), (.pure .id), [(.tmp 3)]⟩, []⟩, ⟨9, ⟨(some 20), (some (18, false)), (.pure (.bin .gtr .none)), [(.tmp 19), (.const (.int .i64 0))]⟩, []⟩, ⟨10, ⟨(some 21), (some (18, false)), (.pure .id), [(.tmp 20)]⟩, []⟩, ⟨11, ⟨(some 22), (some (21, true)), (.pure .id), [(.tmp 0)]⟩, []⟩, ⟨12, ⟨(some 23), (some (21, true)), (.pure .id), [(.tmp 3)]⟩, []⟩, ⟨13, ⟨(some 24), (some (21, true)), (.pure (.bin .sub .none)), [(.tmp 23), (.const (.int .i64 1))]⟩, []⟩, ⟨14, ⟨(some 25), (some (21, true)), (.pure (.iaddr 2)), [(.tmp 22), (.tmp 24)]⟩, []⟩, ⟨15, ⟨(some 26), (some (21, true)), (.pure (.faddr 0)), [(.tmp 25)]⟩, []⟩, ⟨16, ⟨(some 27), (some (21, true)), (.load (.load 1 false)), [(.tmp 26)]⟩, []⟩, ⟨17, ⟨(some 28), (some (21, true)), (.pure .id), [(.tmp 0)]⟩, []⟩, ⟨18, ⟨(some 29), (some (21, true)), (.pure .id), [(.tmp 3)]⟩, []⟩, ⟨19, ⟨(some 30), (some (21, true)), (.pure (.iaddr 2)), [(.tmp 28), (.tmp 29)]⟩, []⟩, ⟨20, ⟨(some 31), (some (21, true)), (.pure (.faddr 0)), [(.tmp 30)]⟩, []⟩, ⟨21, ⟨(some 32), (some (21, true)), (.load (.load 1 false)), [(.tmp 31)]⟩, []⟩, ⟨22, ⟨(some 33), (some (21, true)), (.pure (.bin .eql .bool)), [(.tmp 27), (.tmp 32)]⟩, []⟩, ⟨23, ⟨(some 34), (some (18, false)), (.pure .pick), [(.tmp 21), (.tmp 33), (.const (.bool false))]⟩, []⟩, ⟨24, ⟨(some 35), none, (.pure .pick), [(.tmp 18), (.const (.bool true)), (.tmp 34)]⟩, []⟩]) (.cond (.tmp 35) (.seq (.region [⟨0, ⟨(some 2), none, (.pure .id), [(.const (.bool false))]⟩, []⟩]) .ret) .skip))) (.region [⟨0, ⟨(some 9), none, (.pure .id), [(.tmp 3)]⟩, []⟩, ⟨0, ⟨(some 10), none, (.pure (.bin .add .none)), [(.tmp 9), (.const (.int .i64 1))]⟩, []⟩, ⟨0, ⟨(some 3), none, (.pure .id), [(.tmp 10)]⟩, []⟩])))))) (.seq (.region [⟨0, ⟨(some 36), none, (.pure .id), [(.tmp 0)]⟩, []⟩, ⟨0, ⟨(some 37), none, (.call F_skolemref03_Flat), [(.tmp 36)]⟩, []⟩, ⟨0, ⟨(some 4), none, (.pure .id), [(.tmp 37)]⟩, []⟩]) (.seq (.region [⟨0, ⟨(some 38), none, (.pure .id), [(.tmp 4)]⟩, []⟩, ⟨0, ⟨(some 39), none, (.pure .len), [(.tmp 38)]⟩, []⟩, ⟨0, ⟨(some 40), none, (.pure (.bin .leq .none)), [(.tmp 39), (.const (.int .i64 1024))]⟩, []⟩, ⟨0, ⟨(some 41), none, (.pure .id), [(.tmp 40)]⟩, []⟩, ⟨0, ⟨(some 42), (some (41, true)), (.pure .id), [(.tmp 4)]⟩, []⟩, ⟨0, ⟨(some 43), (some (41, true)), (.call F_skolemref03_single), [(.tmp 42)]⟩, []⟩, ⟨0, ⟨(some 44), none, (.pure .pick), [(.tmp 41), (.tmp 43), (.const (.bool false))]⟩, []⟩, ⟨0, ⟨(some 2), none, (.pure .id), [(.tmp 44)]⟩, []⟩]) .ret))))⟩
theorem c_skolemref03_May : compF Try.prog Try.f19 = some G_skolemref03_May := by kernel_rfl
theorem gc_skolemref03_May {args : List DV} {σ : GS} {Post : DV → GS → Prop} (h : @exB Try.prog ⟨G_skolemref03_May.body⟩ (genv0 args G_skolemref03_May.ntmps) σ ⟨@gretB G_skolemref03_May.results ⟨Post⟩⟩) : GCall Try.prog F_skolemref03_May args σ Post := gcall_ofB seatfollows Try.func19 (by kernel_rfl) c_skolemref03_May h
noncomputable abbrev G_skolemref03_Abs : GFun := ⟨8, [(.tmp 2)], (.seq (.region [⟨0, ⟨(some 2), none, (.pure .id), [(.const (.int .i64 0))]⟩, []⟩]) (.seq (.seq (.region [⟨0, ⟨(some 3), none, (.pure .id), [(.tmp 0)]⟩, []⟩, ⟨0, ⟨(some 4), none, (.pure (.bin .lss .none)), [(.tmp 3), (.const (.int .i64 0))]⟩, []⟩]) (.cond (.tmp 4) (.seq (.region [⟨0, ⟨(some 5), none, (.pure .id), [(.tmp 0)]⟩, []⟩, ⟨0, ⟨(some 6), none, (.pure (.un .neg)), [(.tmp 5)]⟩, []⟩, ⟨0, ⟨(some 2), none, (.pure .id), [(.tmp 6)]⟩, []⟩]) .ret) .skip)) (.seq (.region [⟨0, ⟨(some 7), none, (.pure .id), [(.tmp 0)]⟩, []⟩, ⟨0, ⟨(some 2), none, (.pure .id), [(.tmp 7)]⟩, []⟩]) .ret)))⟩
theorem c_skolemref03_Abs : compF Try.prog Try.f24 = some G_skolemref03_Abs := by kernel_rfl
theorem gc_skolemref03_Abs {args : List DV} {σ : GS} {Post : DV → GS → Prop} (h : @exB Try.prog ⟨G_skolemref03_Abs.body⟩ (genv0 args G_skolemref03_Abs.ntmps) σ ⟨@gretB G_skolemref03_Abs.results ⟨Post⟩⟩) : GCall Try.prog F_skolemref03_Abs args σ Post := gcall_ofB seatfollows Try.func24 (by kernel_rfl) c_skolemref03_Abs h
noncomputable abbrev G_skolemref03_Same : GFun := ⟨42, [(.tmp 4)], (.seq (.region [⟨0, ⟨(some 4), none, (.pure .id), [(.const (.bool false))]⟩, []⟩]) (.seq (.seq (.region [⟨0, ⟨(some 6), none, (.pure .id), [(.tmp 0)]⟩, []⟩, ⟨0, ⟨(some 7), none, (.pure .len), [(.tmp 6)]⟩, []⟩, ⟨0, ⟨(some 8), none, (.pure .id), [(.tmp 1)]⟩, []⟩, ⟨0, ⟨(some 9), none, (.pure .len), [(.tmp 8)]⟩, []⟩, ⟨0, ⟨(some 10), none, (.pure (.bin .neq .none)), [(.tmp 7), (.tmp 9)]⟩, []⟩]) (.cond (.tmp 10) (.seq (.region [⟨0, ⟨(some 4), none, (.pure .id), [(.const (.bool false))]⟩, []⟩]) .ret) .skip)) (.seq (.seq (.region [⟨0, ⟨(some 5), none, (.pure .id), [(.const (.int .i64 0))]⟩, []⟩]) (.block 0 (.loop (.seq (.seq (.region [⟨0, ⟨(some 11), none, (.pure .id), [(.tmp 5)]⟩, []⟩, ⟨0, ⟨(some 12), none, (.pure .id), [(.tmp 0)]⟩, []⟩, ⟨0, ⟨(some 13), none, (.pure .len), [(.tmp 12)]⟩, []⟩, ⟨0, ⟨(some 14), none, (.pure (.bin .lss .none)), [(.tmp 11), (.tmp 13)]⟩, []⟩]) (.cond (.tmp 14) .skip (.exit 0))) (.seq (.block 1 (.seq (.region [⟨0, ⟨(some 17), none, (.pure .id), [(.tmp 0)]⟩, []⟩, ⟨1, ⟨(some 18), none, (.pure .id), [(.tmp 5)]⟩, []⟩, ⟨2, ⟨(some 19), none, (.pure (.iaddr 2)), [(.tmp 17), (.tmp 18)]⟩, []⟩, ⟨3, ⟨(some 20), none, (.pure (.faddr 0)), [(.tmp 19)]⟩, []⟩, ⟨4, ⟨(some 21), none, (.load (.load 1 false)), [(.tmp 20)]⟩, []⟩, ⟨5, ⟨(some 22), none, (.pure .id), [(.tmp 1)]⟩, []⟩, ⟨6, ⟨(some 23), none, (.pure .id), [(.tmp 5)]⟩, []⟩, ⟨7, ⟨(some 24), none, (.pure (.iaddr 2)), [(.tmp 22), (.tmp 23)]⟩, []⟩, ⟨8, ⟨(some 25), none, (.pure (.faddr 0)), [(.tmp 24)]⟩, []⟩, ⟨9, ⟨(some 26), none, (.load (.load 1 false)), [(.tmp 25)]⟩, []⟩, ⟨10, ⟨(some 27), none, (.pure (.bin .neq .bool)), [(.tmp 21), (.tmp 26)]⟩, []⟩, ⟨11, ⟨(some 28), none, (.pure .id), [(.tmp 27)]⟩, []⟩, ⟨12, ⟨(some 29), (some (28, false)), (.pure .id), [(.tmp 0)]⟩, []⟩, ⟨13, ⟨(some 30), (some (28, false)), (.pure .id), [(.tmp 5)]⟩, []⟩, ⟨14, ⟨(some 31), (some (28, false)), (.pure (.iaddr 2)), [(.tmp 29), (.tmp 30)]⟩, []⟩, ⟨15, ⟨(some 32), (some (28, false)), (.pure (.faddr 1)), [(.tmp 31)]⟩, []⟩, ⟨16, ⟨(some 33), (some (28, false)), (.load (.load 1 false)), [(.tmp 32)]⟩, []⟩, ⟨17, ⟨(some 34), (some (28, false)), (.pure .id), [(.tmp 1)]⟩, []⟩, ⟨18, ⟨(some 35), (some (28, false)), (.pure .id), [(.tmp 5)]⟩, []⟩, ⟨19, ⟨(some 36), (some (28, false)), (.pure (.iaddr 2)), [(.tmp 34), (.tmp 35)]⟩, []⟩, ⟨20, ⟨(some 37), (some (28, false)), (.pure (.faddr 1)), [(.tmp 36)]⟩, []⟩, ⟨21, ⟨(some 38), (some (28, false)), (.load (.load 1 false)), [(.tmp 37)]⟩, []⟩, ⟨22, ⟨(some 39), (some (28, false)), (.call F_skolemref03_Ints), [(.tmp 33), (.tmp 38)]⟩, []⟩, ⟨23, ⟨(some 40), (some (28, false)), (.pure (.un .not)), [(.tmp 39)]⟩, []⟩, ⟨24, ⟨(some 41), none, (.pure .pick), [(.tmp 28), (.const (.bool true)), (.tmp 40)]⟩, []⟩]) (.cond (.tmp 41) (.seq (.region [⟨0, ⟨(some 4), none, (.pure .id), [(.const (.bool false))]⟩, []⟩]) .ret) .skip))) (.region [⟨0, ⟨(some 15), none, (.pure .id), [(.tmp 5)]⟩, []⟩, ⟨0, ⟨(some 16), none, (.pure (.bin .add .none)), [(.tmp 15), (.const (.int .i64 1))]⟩, []⟩, ⟨0, ⟨(some 5), none, (.pure .id), [(.tmp 16)]⟩, []⟩])))))) (.seq (.region [⟨0, ⟨(some 4), none, (.pure .id), [(.const (.bool true))]⟩, []⟩]) .ret))))⟩
theorem c_skolemref03_Same : compF Try.prog Try.f16 = some G_skolemref03_Same := by kernel_rfl
theorem gc_skolemref03_Same {args : List DV} {σ : GS} {Post : DV → GS → Prop} (h : @exB Try.prog ⟨G_skolemref03_Same.body⟩ (genv0 args G_skolemref03_Same.ntmps) σ ⟨@gretB G_skolemref03_Same.results ⟨Post⟩⟩) : GCall Try.prog F_skolemref03_Same args σ Post := gcall_ofB seatfollows Try.func16 (by kernel_rfl) c_skolemref03_Same h
noncomputable abbrev G_prefix_each : GFun := ⟨4, [(.tmp 2)], (.seq (.region [⟨0, ⟨(some 1), none, (.new .box), [(.tmp 0)]⟩, []⟩, ⟨0, ⟨(some 2), none, (.pure .id), [(.const .nilf)]⟩, []⟩]) (.seq (.region [⟨0, ⟨(some 3), none, (.pure (.mkfunc F_prefix_each_1 0)), [(.tmp 1)]⟩, []⟩, ⟨0, ⟨(some 2), none, (.pure .id), [(.tmp 3)]⟩, []⟩]) .ret))⟩
theorem c_prefix_each : compF Try.prog Try.f67 = some G_prefix_each := by kernel_rfl
theorem gc_prefix_each {args : List DV} {σ : GS} {Post : DV → GS → Prop} (h : @exB Try.prog ⟨G_prefix_each.body⟩ (genv0 args G_prefix_each.ntmps) σ ⟨@gretB G_prefix_each.results ⟨Post⟩⟩) : GCall Try.prog F_prefix_each args σ Post := gcall_ofB seatfollows Try.func67 (by kernel_rfl) c_prefix_each h
noncomputable abbrev G_prefix_each_1 : GFun := ⟨28, [], (.seq (.region [⟨0, ⟨(some 7), none, (.load (.load 1 false)), [(.tmp 1)]⟩, []⟩, ⟨0, ⟨(some 8), none, (.pure .len), [(.tmp 7)]⟩, []⟩, ⟨0, ⟨(some 9), none, (.pure .id), [(.const (.int .i64 0))]⟩, []⟩]) (.block 0 (.loop (.seq (.region [⟨0, ⟨(some 10), none, (.pure (.bin .lss .none)), [(.tmp 9), (.tmp 8)]⟩, []⟩]) (.seq (.cond (.tmp 10) .skip (.exit 0)) (.seq (.block 1 (.seq (.region [⟨0, ⟨(some 11), none, (.pure .id), [(.tmp 9)]⟩, []⟩, ⟨0, ⟨(some 12), none, (.pure (.iaddr 2)), [(.tmp 7), (.tmp 9)]⟩, []⟩, ⟨0, ⟨(some 13), none, (.load (.load 2 true)), [(.tmp 12)]⟩, []⟩, ⟨0, ⟨(some 4), none, (.new (.alloc [(.bool false), .nils])), []⟩, []⟩, ⟨0, ⟨(some 3), none, (.pure .id), [(.tmp 11)]⟩, []⟩, ⟨0, ⟨none, none, (.imp (.store 2)), [(.tmp 4), (.tmp 13)]⟩, []⟩]) (.seq (.region [⟨0, ⟨(some 14), none, (.pure (.faddr 1)), [(.tmp 4)]⟩, []⟩, ⟨0, ⟨(some 15), none, (.load (.load 1 false)), [(.tmp 14)]⟩, []⟩, ⟨0, ⟨(some 16), none, (.pure .len), [(.tmp 15)]⟩, []⟩, ⟨0, ⟨(some 17), none, (.pure .id), [(.const (.int .i64 0))]⟩, []⟩]) (.block 2 (.loop (.seq (.region [⟨0, ⟨(some 18), none, (.pure (.bin .lss .none)), [(.tmp 17), (.tmp 16)]⟩, []⟩]) (.seq (.cond (.tmp 18) .skip (.exit 2)) (.seq (.block 3 (.seq (.region [⟨0, ⟨(some 19), none, (.pure (.iaddr 1)), [(.tmp 15), (.tmp 17)]⟩, []⟩, ⟨0, ⟨(some 20), none, (.load (.load 1 false)), [(.tmp 19)]⟩, []⟩, ⟨0, ⟨(some 6), none, (.pure .id), [(.tmp 20)]⟩, []⟩]) (.seq (.region [⟨0, ⟨(some 21), none, (.pure .id), [(.tmp 0)]⟩, []⟩, ⟨0, ⟨(some 22), none, (.pure .id), [(.tmp 3)]⟩, []⟩, ⟨0, ⟨(some 23), none, (.pure .id), [(.tmp 6)]⟩, []⟩, ⟨0, ⟨(some 24), none, .callv, [(.tmp 21), (.tmp 22), (.tmp 23)]⟩, []⟩, ⟨0, ⟨(some 25), none, (.pure (.un .not)), [(.tmp 24)]⟩, []⟩]) (.cond (.tmp 25) .ret .skip)))) (.region [⟨0, ⟨(some 26), none, (.pure (.bin .add .none)), [(.tmp 17), (.const (.int .i64 1))]⟩, []⟩, ⟨0, ⟨(some 17), none, (.pure .id), [(.tmp 26)]⟩, []⟩]))))))))) (.region [⟨0, ⟨(some 27), none, (.pure (.bin .add .none)), [(.tmp 9), (.const (.int .i64 1))]⟩, []⟩, ⟨0, ⟨(some 9), none, (.pure .id), [(.tmp 27)]⟩, []⟩])))))))⟩
theorem c_prefix_each_1 : compF Try.prog Try.f82 = some G_prefix_each_1 := by kernel_rfl
theorem gc_prefix_each_1 {args : List DV} {σ : GS} {Post : DV → GS → Prop} (h : @exB Try.prog ⟨G_prefix_each_1.body⟩ (genv0 args G_prefix_each_1.ntmps) σ ⟨@gretB G_prefix_each_1.results ⟨Post⟩⟩) : GCall Try.prog F_prefix_each_1 args σ Post := gcall_ofB seatfollows Try.func82 (by kernel_rfl) c_prefix_each_1 h
noncomputable abbrev G_prefix_count : GFun := ⟨27, [(.cell 2 1 false), (.cell 3 1 false)], (.seq (.region [⟨0, ⟨(some 2), none, (.new (.alloc [(.int .i64 0)])), []⟩, []⟩, ⟨0, ⟨(some 3), none, (.new (.alloc [(.bool false)])), []⟩, []⟩]) (.seq (.region [⟨0, ⟨(some 7), none, (.new .mmap), []⟩, []⟩, ⟨0, ⟨(some 4), none, (.new (.alloc [.nilmap])), []⟩, []⟩, ⟨0, ⟨none, none, (.imp (.store 1)), [(.tmp 4), (.tmp 7)]⟩, []⟩]) (.seq (.seq (.region [⟨0, ⟨(some 8), none, (.pure .id), [(.tmp 0)]⟩, []⟩, ⟨0, ⟨(some 9), none, (.call F_prefix_each), [(.tmp 8)]⟩, []⟩]) (.block 0 (.rangeF (.tmp 9) [10, 11] (rngA Try.f33 0) (rngB Try.f33 0)))) (.seq (.region [⟨0, ⟨(some 25), none, (.load (.load 1 false)), [(.tmp 4)]⟩, []⟩, ⟨0, ⟨(some 26), none, (.load .mlen), [(.tmp 25)]⟩, []⟩, ⟨0, ⟨none, none, (.imp (.store 1)), [(.tmp 2), (.tmp 26)]⟩, []⟩, ⟨0, ⟨none, none, (.imp (.store 1)), [(.tmp 3), (.const (.bool true))]⟩, []⟩]) .ret))))⟩
theorem c_prefix_count : compF Try.prog Try.f33 = some G_prefix_count := by kernel_rfl
theorem gc_prefix_count {args : List DV} {σ : GS} {Post : DV → GS → Prop} (h : @exB Try.prog ⟨G_prefix_count.body⟩ (genv0 args G_prefix_count.ntmps) σ ⟨@gretB G_prefix_count.results ⟨Post⟩⟩) : GCall Try.prog F_prefix_count args σ Post := gcall_ofB seatfollows Try.func33 (by kernel_rfl) c_prefix_count h
noncomputable abbrev GA_prefix_count_0 : GCode := (.region [⟨0, ⟨(some 6), none, (.pure .id), [(.tmp 11)]⟩, []⟩])
theorem ca_prefix_count_0 : comp Try.prog (rngA Try.f33 0) = some GA_prefix_count_0 := by kernel_rfl
noncomputable abbrev GB_prefix_count_0 : GCode := (.block 1 (.seq (.seq (.region [⟨0, ⟨(some 12), none, (.pure .id), [(.tmp 6)]⟩, []⟩, ⟨0, ⟨(some 13), none, (.pure (.bin .lss .none)), [(.tmp 12), (.const (.int .i64 1))]⟩, []⟩, ⟨0, ⟨(some 14), none, (.pure .id), [(.tmp 13)]⟩, []⟩, ⟨0, ⟨(some 15), (some (14, false)), (.pure .id), [(.tmp 6)]⟩, []⟩, ⟨0, ⟨(some 16), (some (14, false)), (.pure (.bin .gtr .none)), [(.tmp 15), (.const (.int .i64 65536))]⟩, []⟩, ⟨0, ⟨(some 17), none, (.pure .pick), [(.tmp 14), (.const (.bool true)), (.tmp 16)]⟩, []⟩, ⟨0, ⟨(some 18), none, (.pure .id), [(.tmp 17)]⟩, []⟩, ⟨0, ⟨(some 19), (some (18, false)), (.load (.load 1 false)), [(.tmp 4)]⟩, []⟩, ⟨0, ⟨(some 20), (some (18, false)), (.pure .id), [(.tmp 6)]⟩, []⟩, ⟨0, ⟨(some 21), (some (18, false)), (.load (.lookup (.int .i64) (.bool false) false)), [(.tmp 19), (.tmp 20)]⟩, []⟩, ⟨0, ⟨(some 22), none, (.pure .pick), [(.tmp 18), (.const (.bool true)), (.tmp 21)]⟩, []⟩]) (.cond (.tmp 22) (.seq (.region [⟨0, ⟨none, none, (.imp (.store 1)), [(.tmp 2), (.const (.int .i64 0))]⟩, []⟩, ⟨0, ⟨none, none, (.imp (.store 1)), [(.tmp 3), (.const (.bool false))]⟩, []⟩]) .ret) .skip)) (.region [⟨0, ⟨(some 23), none, (.load (.load 1 false)), [(.tmp 4)]⟩, []⟩, ⟨0, ⟨(some 24), none, (.pure .id), [(.tmp 6)]⟩, []⟩, ⟨0, ⟨none, none, (.imp (.mset (.int .i64))), [(.tmp 23), (.tmp 24), (.const (.bool true))]⟩, []⟩])))
theorem cb_prefix_count_0 : comp Try.prog (rngB Try.f33 0) = some GB_prefix_count_0 := by kernel_rfl
noncomputable abbrev G_prefix_May : GFun := ⟨44, [(.tmp 2)], (.seq (.region [⟨0, ⟨(some 2), none, (.pure .id), [(.const (.bool false))]⟩, []⟩]) (.seq (.seq (.region [⟨0, ⟨(some 7), none, (.pure .id), [(.tmp 0)]⟩, []⟩, ⟨0, ⟨(some 8), none, (.pure .len), [(.tmp 7)]⟩, []⟩, ⟨0, ⟨(some 9), none, (.pure .id), [(.const (.int .i64 0))]⟩, []⟩]) (.block 0 (.loop (.seq (.region [⟨0, ⟨(some 10), none, (.pure (.bin .lss .none)), [(.tmp 9), (.tmp 8)]⟩, []⟩]) (.seq (.cond (.tmp 10) .skip (.exit 0)) (.seq (.block 1 (.seq (.region [⟨0, ⟨(some 11), none, (.pure .id), [(.tmp 9)]⟩, []⟩, ⟨0, ⟨(some 12), none, (.pure (.iaddr 2)), [(.tmp 7), (.tmp 9)]⟩, []⟩, ⟨0, ⟨(some 13), none, (.load (.load 2 true)), [(.tmp 12)]⟩, []⟩, ⟨0, ⟨(some 4), none, (.new (.alloc [(.bool false), .nils])), []⟩, []⟩, ⟨0, ⟨(some 3), none, (.pure .id), [(.tmp 11)]⟩, []⟩, ⟨0, ⟨none, none, (.imp (.store 2)), [(.tmp 4), (.tmp 13)]⟩, []⟩]) (.seq (.region [⟨0, ⟨(some 14), none, (.pure (.faddr 1)), [(.tmp 4)]⟩, []⟩, ⟨1, ⟨(some 15), none, (.load (.load 1 false)), [(.tmp 14)]⟩, []⟩, ⟨2, ⟨(some 16), none, (.pure .len), [(.tmp 15)]⟩, []⟩, ⟨3, ⟨(some 17), none, (.pure (.bin .eql .none)), [(.tmp 16), (.const (.int .i64 0))]⟩, []⟩, ⟨4, ⟨(some 18), none, (.pure .id), [(.tmp 17)]⟩, []⟩, ⟨5, ⟨(some 19), (some (18, false)), (.pure .id), [(.tmp 3)]⟩, []⟩, ⟨6, ⟨(some 20), (some (18, false)), (.pure (.bin .gtr .none)), [(.tmp 19), (.const (.int .i64 0))]⟩, []⟩, ⟨7, ⟨(some 21), (some (18, false)), (.pure .id), [(.tmp 20)]⟩, []⟩, ⟨8, ⟨(some 22), (some (21, true)), (.pure .id), [(.tmp 0)]⟩, []⟩, ⟨9, ⟨(some 23), (some (21, true)), (.pure .id), [(.tmp 3)]⟩, []⟩, ⟨10, ⟨(some 24), (some (21, true)), (.pure (.bin .sub .none)), [(.tmp 23), (.const (.int .i64 1))]⟩, []⟩, ⟨11, ⟨(some 25), (some (21, true)), (.pure (.iaddr 2)), [(.tmp 22), (.tmp 24)]⟩, []⟩, ⟨12, ⟨(some 26), (some (21, true)), (.pure (.faddr 0)), [(.tmp 25)]⟩, []⟩, ⟨13, ⟨(some 27), (some (21, true)), (.load (.load 1 false)), [(.tmp 26)]⟩, []⟩, ⟨14, ⟨(some 28), (some (21, true)), (.pure (.faddr 0)), [(.tmp 4)]⟩, []⟩, ⟨15, ⟨(some 29), (some (21, true)), (.load (.load 1 false)), [(.tmp 28)]⟩, []⟩, ⟨16, ⟨(some 30), (some (21, true)), (.pure (.bin .eql .bool)), [(.tmp 27), (.tmp 29)]⟩, []⟩, ⟨17, ⟨(some 31), (some (18, false)), (.pure .pick), [(.tmp 21), (.tmp 30), (.const (.bool false))]⟩, []⟩, ⟨18, ⟨(some 32), none, (.pure .pick), [(.tmp 18), (.const (.bool true)), (.tmp 31)]⟩, []⟩]) (.cond (.tmp 32) (.seq (.region [⟨0, ⟨(some 2), none, (.pure .id), [(.const (.bool false))]⟩, []⟩]) .ret) .skip)))) (.region [⟨0, ⟨(some 33), none, (.pure (.bin .add .none)), [(.tmp 9), (.const (.int .i64 1))]⟩, []⟩, ⟨0, ⟨(some 9), none, (.pure .id), [(.tmp 33)]⟩, []⟩]))))))) (.seq (.region [⟨0, ⟨(some 35), none, (.pure .id), [(.tmp 0)]⟩, []⟩, ⟨0, ⟨(some 36), none, (.call F_prefix_count), [(.tmp 35)]⟩, []⟩, ⟨0, ⟨(some 34), none, (.pure .id), [(.tmp 36)]⟩, []⟩, ⟨0, ⟨(some 37), none, (.pure (.extract 0)), [(.tmp 34)]⟩, []⟩, ⟨0, ⟨(some 38), none, (.pure (.extract 1)), [(.tmp 34)]⟩, []⟩, ⟨0, ⟨(some 5), none, (.pure .id), [(.tmp 37)]⟩, []⟩, ⟨0, ⟨(some 6), none, (.pure .id), [(.tmp 38)]⟩, []⟩]) (.seq (.region [⟨0, ⟨(some 39), none, (.pure .id), [(.tmp 6)]⟩, []⟩, ⟨0, ⟨(some 40), none, (.pure .id), [(.tmp 39)]⟩, []⟩, ⟨0, ⟨(some 41), (some (40, true)), (.pure .id), [(.tmp 5)]⟩, []⟩, ⟨0, ⟨(some 42), (some (40, true)), (.pure (.bin .leq .none)), [(.tmp 41), (.const (.int .i64 1024))]⟩, []⟩, ⟨0, ⟨(some 43), none, (.pure .pick), [(.tmp 40), (.tmp 42), (.const (.bool false))]⟩, []⟩, ⟨0, ⟨(some 2), none, (.pure .id), [(.tmp 43)]⟩, []⟩]) .ret))))⟩
theorem c_prefix_May : compF Try.prog Try.f29 = some G_prefix_May := by kernel_rfl
theorem gc_prefix_May {args : List DV} {σ : GS} {Post : DV → GS → Prop} (h : @exB Try.prog ⟨G_prefix_May.body⟩ (genv0 args G_prefix_May.ntmps) σ ⟨@gretB G_prefix_May.results ⟨Post⟩⟩) : GCall Try.prog F_prefix_May args σ Post := gcall_ofB seatfollows Try.func29 (by kernel_rfl) c_prefix_May h
noncomputable abbrev G_prefix_places : GFun := ⟨31, [(.tmp 2)], (.seq (.region [⟨0, ⟨(some 1), none, (.new .box), [(.tmp 0)]⟩, []⟩, ⟨0, ⟨(some 2), none, (.pure .id), [(.const .nilmap)]⟩, []⟩]) (.seq (.region [⟨0, ⟨(some 8), none, (.new .mmap), []⟩, []⟩, ⟨0, ⟨(some 3), none, (.new (.alloc [.nilmap])), []⟩, []⟩, ⟨0, ⟨none, none, (.imp (.store 1)), [(.tmp 3), (.tmp 8)]⟩, []⟩]) (.seq (.seq (.region [⟨0, ⟨(some 9), none, (.load (.load 1 false)), [(.tmp 1)]⟩, []⟩, ⟨0, ⟨(some 10), none, (.call F_prefix_each), [(.tmp 9)]⟩, []⟩]) (.block 0 (.rangeF (.tmp 10) [11, 12] (rngA Try.f42 0) (rngB Try.f42 0)))) (.seq (.region [⟨0, ⟨(some 30), none, (.load (.load 1 false)), [(.tmp 3)]⟩, []⟩, ⟨0, ⟨(some 2), none, (.pure .id), [(.tmp 30)]⟩, []⟩]) .ret))))⟩
theorem c_prefix_places : compF Try.prog Try.f42 = some G_prefix_places := by kernel_rfl
theorem gc_prefix_places {args : List DV} {σ : GS} {Post : DV → GS → Prop} (h : @exB Try.prog ⟨G_prefix_places.body⟩ (genv0 args G_prefix_places.ntmps) σ ⟨@gretB G_prefix_places.results ⟨Post⟩⟩) : GCall Try.prog F_prefix_places args σ Post := gcall_ofB seatfollows Try.func42 (by kernel_rfl) c_prefix_places h
noncomputable abbrev GA_prefix_places_0 : GCode := (.seq (.region [⟨0, ⟨(some 4), none, (.pure .id), [(.tmp 11)]⟩, []⟩]) (.region [⟨0, ⟨(some 5), none, (.pure .id), [(.tmp 12)]⟩, []⟩]))
theorem ca_prefix_places_0 : comp Try.prog (rngA Try.f42 0) = some GA_prefix_places_0 := by kernel_rfl
noncomputable abbrev GB_prefix_places_0 : GCode := (.block 1 (.seq (.region [⟨0, ⟨(some 14), none, (.load (.load 1 false)), [(.tmp 3)]⟩, []⟩, ⟨0, ⟨(some 15), none, (.pure .id), [(.tmp 5)]⟩, []⟩, ⟨0, ⟨(some 16), none, (.load (.lookup (.int .i64) (.agg [(.int .i64 0), (.bool false)]) true)), [(.tmp 14), (.tmp 15)]⟩, []⟩, ⟨0, ⟨(some 13), none, (.pure .id), [(.tmp 16)]⟩, []⟩, ⟨0, ⟨(some 17), none, (.pure (.extract 0)), [(.tmp 13)]⟩, []⟩, ⟨0, ⟨(some 18), none, (.pure (.extract 1)), [(.tmp 13)]⟩, []⟩, ⟨0, ⟨(some 6), none, (.new (.alloc [(.int .i64 0), (.bool false)])), []⟩, []⟩, ⟨0, ⟨none, none, (.imp (.store 2)), [(.tmp 6), (.tmp 17)]⟩, []⟩, ⟨0, ⟨(some 7), none, (.pure .id), [(.tmp 18)]⟩, []⟩]) (.seq (.region [⟨0, ⟨(some 19), none, (.pure .id), [(.tmp 7)]⟩, []⟩, ⟨0, ⟨(some 20), none, (.pure (.un .not)), [(.tmp 19)]⟩, []⟩]) (.cond (.tmp 20) (.region [⟨0, ⟨(some 21), none, (.load (.load 1 false)), [(.tmp 3)]⟩, []⟩, ⟨1, ⟨(some 22), none, (.pure .id), [(.tmp 5)]⟩, []⟩, ⟨2, ⟨(some 23), none, (.pure .id), [(.tmp 4)]⟩, []⟩, ⟨3, ⟨(some 24), none, (.load (.load 1 false)), [(.tmp 1)]⟩, []⟩, ⟨4, ⟨(some 25), none, (.pure .id), [(.tmp 4)]⟩, []⟩, ⟨5, ⟨(some 26), none, (.pure (.iaddr 2)), [(.tmp 24), (.tmp 25)]⟩, []⟩, ⟨6, ⟨(some 27), none, (.pure (.faddr 0)), [(.tmp 26)]⟩, []⟩, ⟨7, ⟨(some 28), none, (.load (.load 1 false)), [(.tmp 27)]⟩, []⟩, ⟨8, ⟨(some 29), none, (.pure (.build [(.int .i64 0), (.bool false)] [(0, 1), (1, 1)])), [(.tmp 23), (.tmp 28)]⟩, []⟩, ⟨9, ⟨none, none, (.imp (.mset (.int .i64))), [(.tmp 21), (.tmp 22), (.tmp 29)]⟩, []⟩]) .skip))))
theorem cb_prefix_places_0 : comp Try.prog (rngB Try.f42 0) = some GB_prefix_places_0 := by kernel_rfl
noncomputable abbrev G_prefix_abs : GFun := ⟨7, [(.tmp 2)], (.seq (.region [⟨0, ⟨(some 2), none, (.pure .id), [(.const (.int .i64 0))]⟩, []⟩]) (.seq (.region [⟨0, ⟨(some 3), none, (.pure .id), [(.tmp 0)]⟩, []⟩, ⟨0, ⟨(some 4), none, (.pure .id), [(.tmp 0)]⟩, []⟩, ⟨0, ⟨(some 5), none, (.pure (.un .neg)), [(.tmp 4)]⟩, []⟩, ⟨0, ⟨(some 6), none, (.pure .mx), [(.tmp 3), (.tmp 5)]⟩, []⟩, ⟨0, ⟨(some 2), none, (.pure .id), [(.tmp 6)]⟩, []⟩]) .ret))⟩
theorem c_prefix_abs : compF Try.prog Try.f43 = some G_prefix_abs := by kernel_rfl
theorem gc_prefix_abs {args : List DV} {σ : GS} {Post : DV → GS → Prop} (h : @exB Try.prog ⟨G_prefix_abs.body⟩ (genv0 args G_prefix_abs.ntmps) σ ⟨@gretB G_prefix_abs.results ⟨Post⟩⟩) : GCall Try.prog F_prefix_abs args σ Post := gcall_ofB seatfollows Try.func43 (by kernel_rfl) c_prefix_abs h
noncomputable abbrev G_slices_DeleteFunc_int_int : GFun := ⟨42, [(.tmp 4)], (.seq (.region [⟨0, ⟨(some 4), none, (.pure .id), [(.const .nils)]⟩, []⟩]) (.seq (.region [⟨0, ⟨(some 8), none, (.pure .id), [(.tmp 0)]⟩, []⟩, ⟨0, ⟨(some 9), none, (.pure .id), [(.tmp 1)]⟩, []⟩, ⟨0, ⟨(some 10), none, (.call F_slices_IndexFunc_int_int), [(.tmp 8), (.tmp 9)]⟩, []⟩, ⟨0, ⟨(some 5), none, (.pure .id), [(.tmp 10)]⟩, []⟩]) (.seq (.seq (.region [⟨0, ⟨(some 11), none, (.pure .id), [(.tmp 5)]⟩, []⟩, ⟨0, ⟨(some 12), none, (.pure (.bin .eql .none)), [(.tmp 11), (.const (.int .i64 (-1)))]⟩, []⟩]) (.cond (.tmp 12) (.seq (.region [⟨0, ⟨(some 13), none, (.pure .id), [(.tmp 0)]⟩, []⟩, ⟨0, ⟨(some 4), none, (.pure .id), [(.tmp 13)]⟩, []⟩]) .ret) .skip)) (.seq (.seq (.region [⟨0, ⟨(some 14), none, (.pure .id), [(.tmp 5)]⟩, []⟩, ⟨0, ⟨(some 15), none, (.pure (.bin .add .none)), [(.tmp 14), (.const (.int .i64 1))]⟩, []⟩, ⟨0, ⟨(some 6), none, (.pure .id), [(.tmp 15)]⟩, []⟩]) (.block 0 (.loop (.seq (.seq (.region [⟨0, ⟨(some 16), none, (.pure .id), [(.tmp 6)]⟩, []⟩, ⟨0, ⟨(some 17), none, (.pure .id), [(.tmp 0)]⟩, []⟩, ⟨0, ⟨(some 18), none, (.pure .len), [(.tmp 17)]⟩, []⟩, ⟨0, ⟨(some 19), none, (.pure (.bin .lss .none)), [(.tmp 16), (.tmp 18)]⟩, []⟩]) (.cond (.tmp 19) .skip (.exit 0))) (.seq (.block 1 (.seq (.region [⟨0, ⟨(some 22), none, (.pure .id), [(.tmp 0)]⟩, []⟩, ⟨0, ⟨(some 23), none, (.pure .id), [(.tmp 6)]⟩, []⟩, ⟨0, ⟨(some 24), none, (.pure (.iaddr 1)), [(.tmp 22), (.tmp 23)]⟩, []⟩, ⟨0, ⟨(some 25), none, (.load (.load 1 false)), [(.tmp 24)]⟩, []⟩, ⟨0, ⟨(some 7), none, (.pure .id), [(.tmp 25)]⟩, []⟩]) (.seq (.region [⟨0, ⟨(some 26), none, (.pure .id), [(.tmp 1)]⟩, []⟩, ⟨0, ⟨(some 27), none, (.pure .id), [(.tmp 7)]⟩, []⟩, ⟨0, ⟨(some 28), none, .callv, [(.tmp 26), (.tmp 27)]⟩, []⟩, ⟨0, ⟨(some 29), none, (.pure (.un .not)), [(.tmp 28)]⟩, []⟩]) (.cond (.tmp 29) (.seq (.region [⟨0, ⟨(some 30), none, (.pure .id), [(.tmp 0)]⟩, []⟩, ⟨0, ⟨(some 31), none, (.pure .id), [(.tmp 5)]⟩, []⟩, ⟨0, ⟨(some 32), none, (.pure .id), [(.tmp 7)]⟩, []⟩, ⟨0, ⟨(some 33), none, (.pure (.iaddr 1)), [(.tmp 30), (.tmp 31)]⟩, []⟩, ⟨0, ⟨none, none, (.imp (.store 1)), [(.tmp 33), (.tmp 32)]⟩, []⟩]) (.region [⟨0, ⟨(some 34), none, (.pure .id), [(.tmp 5)]⟩, []⟩, ⟨0, ⟨(some 35), none, (.pure (.bin .add .none)), [(.tmp 34), (.const (.int .i64 1))]⟩, []⟩, ⟨0, ⟨(some 5), none, (.pure .id), [(.tmp 35)]⟩, []⟩])) .skip)))) (.region [⟨0, ⟨(some 20), none, (.pure .id), [(.tmp 6)]⟩, []⟩, ⟨0, ⟨(some 21), none, (.pure (.bin .add .none)), [(.tmp 20), (.const (.int .i64 1))]⟩, []⟩, ⟨0, ⟨(some 6), none, (.pure .id), [(.tmp 21)]⟩, []⟩])))))) (.seq (.region [⟨0, ⟨(some 36), none, (.pure .id), [(.tmp 0)]⟩, []⟩, ⟨0, ⟨(some 37), none, (.pure .id), [(.tmp 5)]⟩, []⟩, ⟨0, ⟨(some 38), none, (.pure (.slice 1 true false false)), [(.tmp 36), (.tmp 37)]⟩, []⟩, ⟨0, ⟨none, none, (.imp (.clear 1 [(.int .i64 0)])), [(.tmp 38)]⟩, []⟩]) (.seq (.region [⟨0, ⟨(some 39), none, (.pure .id), [(.tmp 0)]⟩, []⟩, ⟨0, ⟨(some 40), none, (.pure .id), [(.tmp 5)]⟩, []⟩, ⟨0, ⟨(some 41), none, (.pure (.slice 1 false true false)), [(.tmp 39), (.tmp 40)]⟩, []⟩, ⟨0, ⟨(some 4), none, (.pure .id), [(.tmp 41)]⟩, []⟩]) .ret))))))⟩
theorem c_slices_DeleteFunc_int_int : compF Try.prog Try.f37 = some G_slices_DeleteFunc_int_int := by kernel_rfl
theorem gc_slices_DeleteFunc_int_int {args : List DV} {σ : GS} {Post : DV → GS → Prop} (h : @exB Try.prog ⟨G_slices_DeleteFunc_int_int.body⟩ (genv0 args G_slices_DeleteFunc_int_int.ntmps) σ ⟨@gretB G_slices_DeleteFunc_int_int.results ⟨Post⟩⟩) : GCall Try.prog F_slices_DeleteFunc_int_int args σ Post := gcall_ofB seatfollows Try.func37 (by kernel_rfl) c_slices_DeleteFunc_int_int h
noncomputable abbrev G_slices_IndexFunc_int_int : GFun := ⟨19, [(.tmp 4)], (.seq (.region [⟨0, ⟨(some 4), none, (.pure .id), [(.const (.int .i64 0))]⟩, []⟩]) (.seq (.seq (.region [⟨0, ⟨(some 6), none, (.pure .id), [(.tmp 0)]⟩, []⟩, ⟨0, ⟨(some 7), none, (.pure .len), [(.tmp 6)]⟩, []⟩, ⟨0, ⟨(some 8), none, (.pure .id), [(.const (.int .i64 0))]⟩, []⟩]) (.block 0 (.loop (.seq (.region [⟨0, ⟨(some 9), none, (.pure (.bin .lss .none)), [(.tmp 8), (.tmp 7)]⟩, []⟩]) (.seq (.cond (.tmp 9) .skip (.exit 0)) (.seq (.block 1 (.seq (.region [⟨0, ⟨(some 10), none, (.pure .id), [(.tmp 8)]⟩, []⟩, ⟨0, ⟨(some 5), none, (.pure .id), [(.tmp 10)]⟩, []⟩]) (.seq (.region [⟨0, ⟨(some 11), none, (.pure .id), [(.tmp 1)]⟩, []⟩, ⟨0, ⟨(some 12), none, (.pure .id), [(.tmp 0)]⟩, []⟩, ⟨0, ⟨(some 13), none, (.pure .id), [(.tmp 5)]⟩, []⟩, ⟨0, ⟨(some 14), none, (.pure (.iaddr 1)), [(.tmp 12), (.tmp 13)]⟩, []⟩, ⟨0, ⟨(some 15), none, (.load (.load 1 false)), [(.tmp 14)]⟩, []⟩, ⟨0, ⟨(some 16), none, .callv, [(.tmp 11), (.tmp 15)]⟩, []⟩]) (.cond (.tmp 16) (.seq (.region [⟨0, ⟨(some 17), none, (.pure .id), [(.tmp 5)]⟩, []⟩, ⟨0, ⟨(some 4), none, (.pure .id), [(.tmp 17)]⟩, []⟩]) .ret) .skip)))) (.region [⟨0, ⟨(some 18), none, (.pure (.bin .add .none)), [(.tmp 8), (.const (.int .i64 1))]⟩, []⟩, ⟨0, ⟨(some 8), none, (.pure .id), [(.tmp 18)]⟩, []⟩]))))))) (.seq (.region [⟨0, ⟨(some 4), none, (.pure .id), [(.const (.int .i64 (-1)))]⟩, []⟩]) .ret)))⟩
theorem c_slices_IndexFunc_int_int : compF Try.prog Try.f68 = some G_slices_IndexFunc_int_int := by kernel_rfl
theorem gc_slices_IndexFunc_int_int {args : List DV} {σ : GS} {Post : DV → GS → Prop} (h : @exB Try.prog ⟨G_slices_IndexFunc_int_int.body⟩ (genv0 args G_slices_IndexFunc_int_int.ntmps) σ ⟨@gretB G_slices_IndexFunc_int_int.results ⟨Post⟩⟩) : GCall Try.prog F_slices_IndexFunc_int_int args σ Post := gcall_ofB seatfollows Try.func68 (by kernel_rfl) c_slices_IndexFunc_int_int h
noncomputable abbrev G_slices_Clone_int_int : GFun := ⟨8, [(.tmp 2)], (.seq (.region [⟨0, ⟨(some 2), none, (.pure .id), [(.const .nils)]⟩, []⟩]) (.seq (.seq (.region [⟨0, ⟨(some 3), none, (.pure .id), [(.tmp 0)]⟩, []⟩, ⟨0, ⟨(some 4), none, (.eqn false), [(.tmp 3), (.const .nils)]⟩, []⟩]) (.cond (.tmp 4) (.seq (.region [⟨0, ⟨(some 2), none, (.pure .id), [(.const .nils)]⟩, []⟩]) .ret) .skip)) (.seq (.region [⟨0, ⟨(some 5), none, (.new (.bslice 1 [(.int .i64 0)] 0 [])), []⟩, []⟩, ⟨0, ⟨(some 6), none, (.pure .id), [(.tmp 0)]⟩, []⟩, ⟨0, ⟨(some 7), none, (.imp (.append 1 8)), [(.tmp 5), (.tmp 6)]⟩, []⟩, ⟨0, ⟨(some 2), none, (.pure .id), [(.tmp 7)]⟩, []⟩]) .ret)))⟩
theorem c_slices_Clone_int_int : compF Try.prog Try.f38 = some G_slices_Clone_int_int := by kernel_rfl
theorem gc_slices_Clone_int_int {args : List DV} {σ : GS} {Post : DV → GS → Prop} (h : @exB Try.prog ⟨G_slices_Clone_int_int.body⟩ (genv0 args G_slices_Clone_int_int.ntmps) σ ⟨@gretB G_slices_Clone_int_int.results ⟨Post⟩⟩) : GCall Try.prog F_slices_Clone_int_int args σ Post := gcall_ofB seatfollows Try.func38 (by kernel_rfl) c_slices_Clone_int_int h
noncomputable abbrev G_prefix_joined : GFun := ⟨56, [(.tmp 2)], (.seq (.region [⟨0, ⟨(some 2), none, (.pure .id), [(.const .nils)]⟩, []⟩]) (.seq (.seq (.region [⟨0, ⟨(some 6), none, (.pure .id), [(.tmp 0)]⟩, []⟩, ⟨0, ⟨(some 7), none, (.pure .len), [(.tmp 6)]⟩, []⟩, ⟨0, ⟨(some 8), none, (.pure .id), [(.const (.int .i64 0))]⟩, []⟩]) (.block 0 (.loop (.seq (.region [⟨0, ⟨(some 9), none, (.pure (.bin .lss .none)), [(.tmp 8), (.tmp 7)]⟩, []⟩]) (.seq (.cond (.tmp 9) .skip (.exit 0)) (.seq (.block 1 (.seq (.region [⟨0, ⟨(some 10), none, (.pure (.iaddr 2)), [(.tmp 6), (.tmp 8)]⟩, []⟩, ⟨0, ⟨(some 11), none, (.load (.load 2 true)), [(.tmp 10)]⟩, []⟩, ⟨0, ⟨(some 4), none, (.new (.alloc [(.bool false), .nils])), []⟩, []⟩, ⟨0, ⟨none, none, (.imp (.store 2)), [(.tmp 4), (.tmp 11)]⟩, []⟩]) (.seq (.region [⟨0, ⟨(some 12), none, (.pure .id), [(.tmp 2)]⟩, []⟩, ⟨0, ⟨(some 13), none, (.pure .len), [(.tmp 12)]⟩, []⟩, ⟨0, ⟨(some 14), none, (.pure (.bin .sub .none)), [(.tmp 13), (.const (.int .i64 1))]⟩, []⟩, ⟨0, ⟨(some 5), none, (.pure .id), [(.tmp 14)]⟩, []⟩]) (.block 2 (.seq (.region [⟨0, ⟨(some 25), none, (.pure (.faddr 1)), [(.tmp 4)]⟩, []⟩, ⟨0, ⟨(some 26), none, (.load (.load 1 false)), [(.tmp 25)]⟩, []⟩, ⟨0, ⟨(some 27), none, (.pure .len), [(.tmp 26)]⟩, []⟩, ⟨0, ⟨(some 28), none, (.pure (.bin .eql .none)), [(.tmp 27), (.const (.int .i64 0))]⟩, []⟩, ⟨0, ⟨(some 24), none, (.pure .id), [(.tmp 28)]⟩, []⟩]) (.cond (.tmp 24) .skip (.seq (.region [⟨0, ⟨(some 30), none, (.pure .id), [(.tmp 5)]⟩, []⟩, ⟨1, ⟨(some 31), none, (.pure (.bin .geq .none)), [(.tmp 30), (.const (.int .i64 0))]⟩, []⟩, ⟨2, ⟨(some 32), none, (.pure .id), [(.tmp 31)]⟩, []⟩, ⟨3, ⟨(some 33), (some (32, true)), (.pure .id), [(.tmp 2)]⟩, []⟩, ⟨4, ⟨(some 34), (some (32, true)), (.pure .id), [(.tmp 5)]⟩, []⟩, ⟨5, ⟨(some 35), (some (32, true)), (.pure (.iaddr 2)), [(.tmp 33), (.tmp 34)]⟩, []⟩, ⟨6, ⟨(some 36), (some (32, true)), (.pure (.faddr 0)), [(.tmp 35)]⟩, []⟩, ⟨7, ⟨(some 37), (some (32, true)), (.load (.load 1 false)), [(.tmp 36)]⟩, []⟩, ⟨8, ⟨(some 38), (some (32, true)), (.pure (.faddr 0)), [(.tmp 4)]⟩, []⟩, ⟨9, ⟨(some 39), (some (32, true)), (.load (.load 1 false)), [(.tmp 38)]⟩, []⟩, ⟨10, ⟨(some 40), (some (32, true)), (.pure (.bin .eql .bool)), [(.tmp 37), (.tmp 39)]⟩, []⟩, ⟨11, ⟨(some 41), none, (.pure .pick), [(.tmp 32), (.tmp 40), (.const (.bool false))]⟩, []⟩, ⟨12, ⟨(some 29), none, (.pure .id), [(.tmp 41)]⟩, []⟩]) (.cond (.tmp 29) (.region [⟨0, ⟨(some 42), none, (.pure .id), [(.tmp 2)]⟩, []⟩, ⟨1, ⟨(some 43), none, (.pure .id), [(.tmp 5)]⟩, []⟩, ⟨2, ⟨(some 44), none, (.pure .id), [(.tmp 2)]⟩, []⟩, ⟨3, ⟨(some 45), none, (.pure .id), [(.tmp 5)]⟩, []⟩, ⟨4, ⟨(some 46), none, (.pure (.iaddr 2)), [(.tmp 44), (.tmp 45)]⟩, []⟩, ⟨5, ⟨(some 47), none, (.pure (.faddr 1)), [(.tmp 46)]⟩, []⟩, ⟨6, ⟨(some 48), none, (.load (.load 1 false)), [(.tmp 47)]⟩, []⟩, ⟨7, ⟨(some 49), none, (.pure (.faddr 1)), [(.tmp 4)]⟩, []⟩, ⟨8, ⟨(some 50), none, (.load (.load 1 false)), [(.tmp 49)]⟩, []⟩, ⟨9, ⟨(some 51), none, (.imp (.append 1 8)), [(.tmp 48), (.tmp 50)]⟩, []⟩, ⟨10, ⟨(some 52), none, (.pure (.iaddr 2)), [(.tmp 42), (.tmp 43)]⟩, []⟩, ⟨11, ⟨(some 53), none, (.pure (.faddr 1)), [(.tmp 52)]⟩, []⟩, ⟨12, ⟨none, none, (.imp (.store 1)), [(.tmp 53), (.tmp 51)]⟩, []⟩]) (.region [⟨0, ⟨(some 15), none, (.pure .id), [(.tmp 2)]⟩, []⟩, ⟨1, ⟨(some 16), none, (.pure (.faddr 0)), [(.tmp 4)]⟩, []⟩, ⟨2, ⟨(some 17), none, (.load (.load 1 false)), [(.tmp 16)]⟩, []⟩, ⟨3, ⟨(some 18), none, (.pure (.faddr 1)), [(.tmp 4)]⟩, []⟩, ⟨4, ⟨(some 19), none, (.load (.load 1 false)), [(.tmp 18)]⟩, []⟩, ⟨5, ⟨(some 20), none, (.call F_slices_Clone_int_int), [(.tmp 19)]⟩, [⟨(some 17), none, (.load (.load 1 false)), [(.tmp 16)]⟩]⟩, ⟨6, ⟨(some 21), none, (.pure (.build [(.bool false), .nils] [(0, 1), (1, 1)])), [(.tmp 17), (.tmp 20)]⟩, []⟩, ⟨7, ⟨(some 22), none, (.new (.bslice 2 [(.bool false), .nils] 1 [(0, 2)])), [(.tmp 21)]⟩, []⟩, ⟨8, ⟨(some 23), none, (.imp (.append 2 32)), [(.tmp 15), (.tmp 22)]⟩, []⟩, ⟨9, ⟨(some 2), none, (.pure .id), [(.tmp 23)]⟩, []⟩]))))))))) (.region [⟨0, ⟨(some 54), none, (.pure (.bin .add .none)), [(.tmp 8), (.const (.int .i64 1))]⟩, []⟩, ⟨0, ⟨(some 8), none, (.pure .id), [(.tmp 54)]⟩, []⟩]))))))) (.seq (.region [⟨0, ⟨(some 55), none, (.pure .id), [(.tmp 2)]⟩, []⟩, ⟨0, ⟨(some 2), none, (.pure .id), [(.tmp 55)]⟩, []⟩]) .ret)))⟩
theorem c_prefix_joined : compF Try.prog Try.f34 = some G_prefix_joined := by kernel_rfl
theorem gc_prefix_joined {args : List DV} {σ : GS} {Post : DV → GS → Prop} (h : @exB Try.prog ⟨G_prefix_joined.body⟩ (genv0 args G_prefix_joined.ntmps) σ ⟨@gretB G_prefix_joined.results ⟨Post⟩⟩) : GCall Try.prog F_prefix_joined args σ Post := gcall_ofB seatfollows Try.func34 (by kernel_rfl) c_prefix_joined h
noncomputable abbrev G_prefix_Join : GFun := ⟨19, [(.tmp 2), (.tmp 3)], (.seq (.region [⟨0, ⟨(some 2), none, (.pure .id), [(.const .nils)]⟩, []⟩, ⟨0, ⟨(some 3), none, (.pure .id), [(.const (.int .i64 0))]⟩, []⟩]) (.seq (.region [⟨0, ⟨(some 7), none, (.pure .id), [(.tmp 0)]⟩, []⟩, ⟨0, ⟨(some 8), none, (.call F_prefix_count), [(.tmp 7)]⟩, []⟩, ⟨0, ⟨(some 6), none, (.pure .id), [(.tmp 8)]⟩, []⟩, ⟨0, ⟨(some 9), none, (.pure (.extract 0)), [(.tmp 6)]⟩, []⟩, ⟨0, ⟨(some 10), none, (.pure (.extract 1)), [(.tmp 6)]⟩, []⟩, ⟨0, ⟨(some 4), none, (.pure .id), [(.tmp 9)]⟩, []⟩, ⟨0, ⟨(some 5), none, (.pure .id), [(.tmp 10)]⟩, []⟩]) (.seq (.block 0 (.seq (.region [⟨0, ⟨(some 12), none, (.pure .id), [(.tmp 5)]⟩, []⟩, ⟨0, ⟨(some 13), none, (.pure (.un .not)), [(.tmp 12)]⟩, []⟩, ⟨0, ⟨(some 11), none, (.pure .id), [(.tmp 13)]⟩, []⟩]) (.cond (.tmp 11) (.seq (.region [⟨0, ⟨(some 2), none, (.pure .id), [(.const .nils)]⟩, []⟩, ⟨0, ⟨(some 3), none, (.pure .id), [(.const (.int .i64 2))]⟩, []⟩]) .ret) (.seq (.region [⟨0, ⟨(some 15), none, (.pure .id), [(.tmp 4)]⟩, []⟩, ⟨0, ⟨(some 16), none, (.pure (.bin .gtr .none)), [(.tmp 15), (.const (.int .i64 1024))]⟩, []⟩, ⟨0, ⟨(some 14), none, (.pure .id), [(.tmp 16)]⟩, []⟩]) (.cond (.tmp 14) (.seq (.region [⟨0, ⟨(some 2), none, (.pure .id), [(.const .nils)]⟩, []⟩, ⟨0, ⟨(some 3), none, (.pure .id), [(.const (.int .i64 3))]⟩, []⟩]) .ret) .skip))))) (.seq (.region [⟨0, ⟨(some 17), none, (.pure .id), [(.tmp 0)]⟩, []⟩, ⟨0, ⟨(some 18), none, (.call F_prefix_joined), [(.tmp 17)]⟩, []⟩, ⟨0, ⟨(some 2), none, (.pure .id), [(.tmp 18)]⟩, []⟩, ⟨0, ⟨(some 3), none, (.pure .id), [(.const (.int .i64 0))]⟩, []⟩]) .ret))))⟩
theorem c_prefix_Join : compF Try.prog Try.f10 = some G_prefix_Join := by kernel_rfl
theorem gc_prefix_Join {args : List DV} {σ : GS} {Post : DV → GS → Prop} (h : @exB Try.prog ⟨G_prefix_Join.body⟩ (genv0 args G_prefix_Join.ntmps) σ ⟨@gretB G_prefix_Join.results ⟨Post⟩⟩) : GCall Try.prog F_prefix_Join args σ Post := gcall_ofB seatfollows Try.func10 (by kernel_rfl) c_prefix_Join h
end Go.Gh
namespace Go.Gh
open Go.RowKit Go.Proofs
set_option linter.unusedVariables false
set_option linter.unusedSimpArgs false
set_option maxRecDepth 100000
theorem r_Ints_ok {xs ys : List Int} {σ : GS} {Post : DV → GS → Prop} (hl : xs.length < 2 ^ 60) (h : Post (.bool (decide (xs = ys))) σ) : GCall Try.prog F_skolemref03_Ints [fints xs, fints ys] σ Post := by
  refine gc_skolemref03_Ints ?_
  by_cases hlen : xs.length = ys.length
  rotate_left
  · have hne : xs ≠ ys := fun e => hlen (by rw [e])
    have hlen' : ¬ ((xs.length : Int) = ys.length) := by omega
    simp [G_skolemref03_Ints, genv0, List.replicate, hlen']
    simpa [hne] using h
  simp [G_skolemref03_Ints, genv0, List.replicate, hlen]
  refine gfor xs.length (fun i e σ' => σ' = σ ∧ (xs = ys ↔ xs.drop i = ys.drop i) ∧ e = mkEnv 26 [(0, fints xs), (1, fints ys), (5, .int .i64 i)]) _ ?_ ⟨rfl, by simp, rfl⟩ ?_
  · simp [mkEnv, List.replicate]
  rintro i _ _ hi ⟨rfl, hI, rfl⟩
  simp [mkEnv, List.replicate]
  by_cases hlt : i < xs.length
  · obtain ⟨x, hx⟩ := nth_lt hlt
    obtain ⟨y, hy⟩ := nth_lt (l := ys) (i := i) (by omega)
    rw [drop_get hx, drop_get hy, List.cons.injEq] at hI
    have es : IntKind.i64.wrap ((i : Int) + 1) = (i : Int) + 1 := by rw [wrap_small] <;> omega
    by_cases c : x = y
    · simp [hlt, hx, hy, c, es]
      exact forK_go _ hlt (by simp [mkEnv, List.replicate]) ⟨rfl, by rw [hI]; simp [c], rfl⟩
    · have hne : xs ≠ ys := fun e => c (hI.1 e).1
      simp [hlt, hx, hy, c]
      simpa [hne] using h
  · have : i = xs.length := by omega
    subst this
    have he : xs = ys := hI.2 (by rw [List.drop_length, hlen, List.drop_length])
    simp
    simpa [he] using h
theorem r_Lists_ok {xs ys : List (List Int)} {σ : GS} {Post : DV → GS → Prop} (hl : ClsSm xs) (h : Post (.bool (decide (xs = ys))) σ) : GCall Try.prog F_skolemref03_Lists [fcls xs, fcls ys] σ Post := by
  obtain ⟨hl1, hl2⟩ := hl
  refine gc_skolemref03_Lists ?_
  by_cases hlen : xs.length = ys.length
  rotate_left
  · have hne : xs ≠ ys := fun e => hlen (by rw [e])
    have hlen' : ¬ ((xs.length : Int) = ys.length) := by omega
    simp [G_skolemref03_Lists, genv0, List.replicate, hlen']
    simpa [hne] using h
  simp [G_skolemref03_Lists, genv0, List.replicate, hlen]
  refine gfor xs.length (fun i e σ' => σ' = σ ∧ (xs = ys ↔ xs.drop i = ys.drop i) ∧ e = mkEnv 27 [(0, fcls xs), (1, fcls ys), (5, .int .i64 i)]) _ ?_ ⟨rfl, by simp, rfl⟩ ?_
  · simp [mkEnv, List.replicate]
  rintro i _ _ hi ⟨rfl, hI, rfl⟩
  simp [mkEnv, List.replicate]
  by_cases hlt : i < xs.length
  · obtain ⟨x, hx⟩ := nth_lt hlt
    obtain ⟨y, hy⟩ := nth_lt (l := ys) (i := i) (by omega)
    have hx' := nth_get hx
    have hxl := hl2 x (List.mem_of_getElem? hx')
    rw [drop_get hx, drop_get hy, List.cons.injEq] at hI
    have es : IntKind.i64.wrap ((i : Int) + 1) = (i : Int) + 1 := by rw [wrap_small] <;> omega
    simp [hlt, hx, hy]
    refine r_Ints_ok (by omega) ?_
    by_cases c : x = y
    · simp [c, es]
      exact forK_go _ hlt (by simp [mkEnv, List.replicate]) ⟨rfl, by rw [hI]; simp [c], rfl⟩
    · have hne : xs ≠ ys := fun e => c (hI.1 e).1
      simp [c]
      simpa [hne] using h
  · have : i = xs.length := by omega
    subst this
    have he : xs = ys := hI.2 (by rw [List.drop_length, hlen, List.drop_length])
    simp
    simpa [he] using h
end Go.Gh
namespace Go.Gh
open Go.RowKit Go.Proofs
set_option linter.unusedVariables false
set_option linter.unusedSimpArgs false
set_option maxRecDepth 100000
/-- Whatever it says of the size. -/
theorem l_wide_any {p : List Blk} {c : List (List Int)} {most : Int} {σ : GS} {Post : DV → GS → Prop} (hp : p.length < 2 ^ 60) (hc : c.length < 2 ^ 60) (h : ∀ b, Post (.bool b) σ) : GCall Try.prog F_skolemlaw03_wide [fblks p, fcls c, .int .i64 most] σ Post := by
  refine gc_skolemlaw03_wide ?_
  simp [G_skolemlaw03_wide, genv0, List.replicate]
  refine gfor p.length (fun i e σ' => σ' = σ ∧ ∃ n, e = mkEnv 45 [(0, fblks p), (1, fcls c), (2, .int .i64 most), (7, .int .i64 n), (8, .int .i64 i)]) _ ?_ ⟨rfl, IntKind.i64.wrap ((p.length : Int) + c.length), rfl⟩ ?_
  · simp [mkEnv, List.replicate]
  rintro i _ σ hi ⟨rfl, n, rfl⟩
  simp [mkEnv, List.replicate]
  by_cases hlt : i < p.length
  · obtain ⟨x, hx⟩ := nth_lt hlt
    have es : IntKind.i64.wrap ((i : Int) + 1) = (i : Int) + 1 := by rw [wrap_small] <;> omega
    simp [hlt, hx, es]
    exact forK_go _ hlt (by simp [mkEnv, List.replicate]) ⟨rfl, IntKind.i64.wrap (n + x.2.length), rfl⟩
  have : i = p.length := by omega
  subst this
  simp
  refine gfor c.length (fun i e σ' => σ' = σ ∧ ∃ n, e = mkEnv 45 [(1, fcls c), (2, .int .i64 most), (7, .int .i64 n), (9, .int .i64 i)]) _ ?_ ⟨rfl, n, rfl⟩ ?_
  · simp [mkEnv, List.replicate]
  rintro i _ _ hi ⟨rfl, n, rfl⟩
  simp [mkEnv, List.replicate]
  by_cases hlt : i < c.length
  · obtain ⟨x, hx⟩ := nth_lt hlt
    have es : IntKind.i64.wrap ((i : Int) + 1) = (i : Int) + 1 := by rw [wrap_small] <;> omega
    simp [hlt, hx, es]
    exact forK_go _ hlt (by simp [mkEnv, List.replicate]) ⟨rfl, IntKind.i64.wrap (n + x.length), rfl⟩
  have : i = c.length := by omega
  subst this
  simp
  exact h _
end Go.Gh
namespace Go.Gh
open Go.RowKit Go.Proofs
set_option linter.unusedVariables false
set_option linter.unusedSimpArgs false
set_option maxRecDepth 100000
theorem r_Has_ok {a : List Int} {x : Int} {σ : GS} {Post : DV → GS → Prop} (hl : a.length < 2 ^ 60) (h : Post (.bool (a.contains x)) σ) : GCall Try.prog F_skolemref03_Has [fints a, .int .i64 x] σ Post := by
  refine gc_skolemref03_Has ?_
  simp [G_skolemref03_Has, genv0, List.replicate]
  refine gfor a.length (fun i e σ' => σ' = σ ∧ a.contains x = (a.drop i).contains x ∧ e = mkEnv 18 [(0, fints a), (1, .int .i64 x), (5, .int .i64 i)]) _ ?_ ⟨rfl, by simp, rfl⟩ ?_
  · simp [mkEnv, List.replicate]
  rintro i _ _ hi ⟨rfl, hI, rfl⟩
  simp [mkEnv, List.replicate]
  by_cases hlt : i < a.length
  · obtain ⟨y, hy⟩ := nth_lt hlt
    rw [drop_get hy, List.contains_cons] at hI
    have es : IntKind.i64.wrap ((i : Int) + 1) = (i : Int) + 1 := by rw [wrap_small] <;> omega
    by_cases c : y = x
    · have c' : (x == y) = true := by simp [c]
      simp [hlt, hy, c]
      rw [hI, c'] at h; simpa using h
    · have c' : (x == y) = false := by simpa using fun e => c e.symm
      simp [hlt, hy, c, es]
      exact forK_go _ hlt (by simp [mkEnv, List.replicate]) ⟨rfl, by rw [hI, c']; simp, rfl⟩
  · have : i = a.length := by omega
    subst this
    simp
    rw [hI] at h; simpa using h
theorem r_single_ok {l : List Int} {σ : GS} {Post : DV → GS → Prop} (hl : l.length < 2 ^ 60) (h : Post (.bool (singleS [] l)) σ) : GCall Try.prog F_skolemref03_single [fints l] σ Post := by
  refine gc_skolemref03_single ?_
  simp [G_skolemref03_single, genv0, List.replicate]
  refine gfor l.length (fun i e σ' => σ' = σ ∧ singleS [] l = singleS (l.take i) (l.drop i) ∧ e = mkEnv 32 [(0, fints l), (3, .int .i64 i)]) _ ?_ ⟨rfl, by simp, rfl⟩ ?_
  · simp [mkEnv, List.replicate]
  rintro i _ _ hi ⟨rfl, hI, rfl⟩
  simp [mkEnv, List.replicate]
  by_cases hlt : i < l.length
  · obtain ⟨y, hy⟩ := nth_lt hlt
    have hy' := nth_get hy
    rw [drop_get hy', singleS] at hI
    have es : IntKind.i64.wrap ((i : Int) + 1) = (i : Int) + 1 := by rw [wrap_small] <;> omega
    have hsl : gpure (.slice 1 false true false) [fints l, .int .i64 i] = some (fints (l.take i)) := by
      simp only [gpure, gslice, if_true, gbm, Option.bind_some, gbh, gbl, gbound, List.length_map]
      rw [if_pos (by omega)]
      simp [List.map_take]
    by_cases h1 : 1 ≤ y
    rotate_left
    · have h1' : y < 1 := by omega
      simp [hlt, hy, h1']
      rw [hI] at h; simpa [isVar, h1] using h
    have h1' : ¬ y < 1 := by omega
    by_cases h2 : y ≤ 65536
    rotate_left
    · have h2' : 65536 < y := by omega
      simp [hlt, hy, h1', h2']
      rw [hI] at h; simpa [isVar, h1, h2] using h
    have h2' : ¬ 65536 < y := by omega
    simp [hlt, hy, h1', h2', hsl]
    refine r_Has_ok (by simp; omega) ?_
    by_cases c : (l.take i).contains y = true
    · rw [c]
      simp
      rw [hI, c] at h; simpa using h
    · have c' : (l.take i).contains y = false := by simpa using c
      rw [c']
      simp [es]
      exact forK_go _ hlt (by simp [mkEnv, List.replicate]) ⟨rfl, by rw [hI, c', take_get hy']; simp [isVar, h1, h2], rfl⟩
  · have : i = l.length := by omega
    subst this
    simp
    rw [hI] at h; simpa [singleS] using h
theorem r_Flat_ok {p : List Blk} {σ : GS} {Post : DV → GS → Prop} (hp : lensB p < 2 ^ 40) (h : Post (fints (flatB p)) σ) : GCall Try.prog F_skolemref03_Flat [fblks p] σ Post := by
  have hlb := lensB_flat p
  refine GCall.pure (r := fints (flatB p)) ?_ (by simp) h
  refine gc_skolemref03_Flat ?_
  simp [G_skolemref03_Flat, genv0, List.replicate]
  refine gfor p.length (fun i e σ' => Fr σ.length σ σ' ∧ ∃ s, Own σ.length 1 eint σ' s (flatB (p.take i)) ∧ e = mkEnv 19 [(0, fblks p), (3, s), (4, .int .i64 i)]) _ ?_ ⟨.rfl', .nils, by simpa using Own.nil, rfl⟩ ?_
  · simp [mkEnv, List.replicate]
  rintro i _ σ' hi ⟨hF, s, hO, rfl⟩
  simp [mkEnv, List.replicate]
  by_cases hlt : i < p.length
  · obtain ⟨b, hb⟩ := nth_lt hlt
    have hb' := nth_get hb
    have es : IntKind.i64.wrap ((i : Int) + 1) = (i : Int) + 1 := by rw [wrap_small] <;> omega
    have htk : flatB (p.take (i + 1)) = flatB (p.take i) ++ b.2 := by rw [take_get hb', flatB_append]; simp
    have hle : (flatB (p.take i)).length + b.2.length ≤ (flatB p).length := by
      have : flatB p = flatB (p.take (i + 1)) ++ flatB (p.drop (i + 1)) := by rw [← flatB_append, List.take_append_drop]
      rw [this, htk]; simp
    have hge := hF.len
    obtain ⟨s', σ2, q1, q2, q3, q4, q5, q6, q7⟩ := hO.append (by_ := 8) (x := fints b.2) (ys := b.2) (fun _ => rfl) (by simpa [flatMap_flatten] using gread_fsl (σ := σ') (sz := 1) (es := b.2.map eint)) (by simp [glen]) (by simp) hge (by omega) (by decide)
    simp [hlt, hb, q1, es]
    exact forK_go _ hlt (by simp [mkEnv, List.replicate]) ⟨hF.trans q3, s', by rw [htk]; exact q2, rfl⟩
  · have : i = p.length := by omega
    subst this
    rw [List.take_length] at hO
    simp
    exact ⟨hF, hO.rd (fun _ => rfl) fun i hi => .inl hi⟩
theorem altB_step {prev : Option Bool} {b : Blk} {p : List Blk} : altB prev (b :: p) = (!b.2.isEmpty && decide (prev ≠ some b.1) && altB (some b.1) p) := rfl
/-- The quantifier of the block before. -/
def prevB (p : List Blk) : Nat → Option Bool
  | 0 => none
  | i + 1 => (p[i]?).map (·.1)
theorem r_May_ok {p : List Blk} {σ : GS} {Post : DV → GS → Prop} (hp : lensB p < 2 ^ 40) (h : Post (.bool (mayB p)) σ) : GCall Try.prog F_skolemref03_May [fblks p] σ Post := by
  have hlb := lensB_flat p
  refine GCall.say (r := .bool (mayB p)) ?_ rfl h
  refine gc_skolemref03_May ?_
  simp [G_skolemref03_May, genv0, List.replicate]
  refine gfor p.length (fun i e σ' => σ' = σ ∧ altB none p = altB (prevB p i) (p.drop i) ∧ e = mkEnv 45 [(0, fblks p), (3, .int .i64 i)]) _ ?_ ⟨rfl, by simp [prevB], rfl⟩ ?_
  · simp [mkEnv, List.replicate]
  rintro i _ _ hi ⟨rfl, hI, rfl⟩
  simp [mkEnv, List.replicate]
  by_cases hlt : i < p.length
  · obtain ⟨b, hb⟩ := nth_lt hlt
    have hb' := nth_get hb
    rw [drop_get hb', altB_step] at hI
    have es : IntKind.i64.wrap ((i : Int) + 1) = (i : Int) + 1 := by rw [wrap_small] <;> omega
    by_cases h0 : b.2.length = 0
    · have h0' : b.2 = [] := List.length_eq_zero_iff.1 h0
      simp [hlt, hb, h0']
      simp [mayB, hI, h0']
      exact .rfl'
    have h0' : ¬ (b.2 = []) := fun e => h0 (by rw [e]; rfl)
    have h0'' : ¬ ((b.2.length : Int) = 0) := by omega
    cases i with
    | zero =>
      simp [hlt, hb, h0', h0'']
      exact forK_go _ hlt (by simp [mkEnv, List.replicate]) ⟨rfl, by simp [hI, prevB, hb', h0'], rfl⟩
    | succ i =>
      obtain ⟨c, hc⟩ := nth_lt (l := p) (i := i) (by omega)
      have hc' := nth_get hc
      have ew' : IntKind.i64.wrap (i : Int) = i := by rw [wrap_small] <;> omega
      have hge : (0 : Int) ≤ (i : Int) + 1 := by omega
      have hgt : (0 : Int) < (i : Int) + 1 := by omega
      have htn : ((i : Int) + 1).toNat = i + 1 := by omega
      have es2 : IntKind.i64.wrap ((i : Int) + 1 + 1) = (i : Int) + 1 + 1 := by rw [wrap_small] <;> omega
      by_cases he : c.1 = b.1
      · simp [hlt, hb, h0', h0'', hge, hgt, htn, ew', hc, he]
        simp [mayB, hI, prevB, hc', he]
        exact .rfl'
      · have he2 : (c.1 == b.1) = false := by simpa using he
        simp [hlt, hb, h0', h0'', hge, hgt, htn, ew', hc, he2, es2]
        exact forK_go _ hlt (by simp [mkEnv, List.replicate]) ⟨rfl, by simp [hI, prevB, hc', he, h0', hb'], rfl⟩
  · have : i = p.length := by omega
    subst this
    rw [List.drop_length] at hI
    have hI' : altB none p = true := hI
    simp
    refine r_Flat_ok hp ?_
    by_cases c : (flatB p).length ≤ 1024
    · have c' : ((flatB p).length : Int) ≤ 1024 := by omega
      simp [c']
      refine r_single_ok (by omega) ?_
      simp [mayB, hI', c]
      exact .rfl'
    · have c' : ¬ ((flatB p).length : Int) ≤ 1024 := by omega
      simp [c']
      simp [mayB, c]
      exact .rfl'
end Go.Gh
namespace Go.Gh
open Go.RowKit Go.Proofs
set_option linter.unusedVariables false
set_option linter.unusedSimpArgs false
set_option maxRecDepth 100000
theorem p_each_ok {p : List Blk} {σ : GS} {Post : DV → GS → Prop} (k : Post (.func F_prefix_each_1 [] [.fptr [fblks p]]) σ) : GCall Try.prog F_prefix_each [fblks p] σ Post := by
  refine GCall.pure (r := .func F_prefix_each_1 [] [.fptr [fblks p]]) ?_ (by have := closed_fblks p; simp [DV.closed, closeds] at this ⊢; exact this) k
  refine gc_prefix_each ?_
  simp [G_prefix_each, genv0, List.replicate]
  exact .func .nil (.cons (.ptr (id := σ.length) (off := 0) (ro := false) (cs := [fblks p]) (.inl (Nat.le_refl _)) (by simp) (.cons (.same _) .nil)) .nil)
theorem p_each1_ok {p : List Blk} {L : Nat} {σ : GS} {Post : DV → GS → Prop} (hp : lensB p < 2 ^ 40) (I : Nat → GS → Prop) (J : GS → Prop) (hI : ∀ n σ' o, I n σ' → I n (σ' ++ [o])) (h0 : I 0 σ)
    (hr : ∀ n i v σ', (prs 0 p)[n]? = some (i, v) → I n σ' → GRound Try.prog L [.int .i64 (i : Nat), .int .i64 v] σ' fun r σ'' => (r = .bool true ∧ I (n + 1) σ'') ∨ (r = .bool false ∧ J σ''))
    (k : ∀ σ', I (flatB p).length σ' → Post (.tuple []) σ') (kj : ∀ σ', J σ' → Post (.tuple []) σ') : GCall Try.prog F_prefix_each_1 [.yield L, .fptr [fblks p]] σ Post := by
  have hlb := lensB_flat p
  refine gc_prefix_each_1 ?_
  simp [G_prefix_each_1, genv0, List.replicate]
  refine gfor p.length (fun i e σ' => I (flatB (p.take i)).length σ' ∧ e = mkEnv 28 [(0, .yield L), (7, fblks p), (8, .int .i64 p.length), (9, .int .i64 i)]) _ ?_ ⟨by simpa using h0, rfl⟩ ?_
  · simp [mkEnv, List.replicate]
  rintro i _ σ1 hi ⟨hI1, rfl⟩
  simp [mkEnv, List.replicate]
  by_cases hlt : i < p.length
  rotate_left
  · have : i = p.length := by omega
    subst this
    rw [List.take_length] at hI1
    simp
    exact k _ hI1
  obtain ⟨b, hb⟩ := nth_lt hlt
  have hb' := nth_get hb
  have hbm := lensB_mem (List.mem_of_getElem? hb')
  have es : IntKind.i64.wrap ((i : Int) + 1) = (i : Int) + 1 := by rw [wrap_small] <;> omega
  simp [hlt, hb]
  refine gfor b.2.length (fun j e σ' => I ((flatB (p.take i)).length + j) σ' ∧ e = mkEnv 28 [(0, .yield L), (3, .int .i64 i), (7, fblks p), (8, .int .i64 p.length), (9, .int .i64 i), (15, fints b.2), (16, .int .i64 b.2.length), (17, .int .i64 j)]) _ ?_ ⟨hI _ _ _ hI1, rfl⟩ ?_
  · simp [mkEnv, List.replicate]
  rintro j _ σ2 hj ⟨hI2, rfl⟩
  simp [mkEnv, List.replicate]
  by_cases hjl : j < b.2.length
  · obtain ⟨v, hv⟩ := nth_lt hjl
    have hv' := nth_get hv
    have es2 : IntKind.i64.wrap ((j : Int) + 1) = (j : Int) + 1 := by rw [wrap_small] <;> omega
    simp [hjl, hv]
    refine (hr _ i v σ2 (prs_at hb' hv') hI2).mono ?_
    rintro r σ3 (⟨rfl, h3⟩ | ⟨rfl, h3⟩)
    · simp [es2]
      exact forK_go _ hjl (by simp [mkEnv, List.replicate]) ⟨by rw [← Nat.add_assoc]; exact h3, rfl⟩
    · simp
      exact kj _ h3
  · have : j = b.2.length := by omega
    subst this
    simp [es]
    refine forK_go _ hlt (by simp [mkEnv, List.replicate]) ⟨?_, rfl⟩
    rw [flatB_take hb', List.length_append]; exact hI2
theorem grange_ret {id : Nat} {env e0 : Env} {ps : List Tmp} {a b : Code} {Q : Exit → Env → GS → Prop} {σ : GS} (h : σ[id]? = some (.loop ⟨e0, ps, a, b, .done, some .ret⟩)) (k : Q .ret env (σ.set id (.loop ⟨e0, ps, a, b, .exhausted, some .ret⟩))) : grange id env Q σ := ⟨_, h, by simp, k⟩
theorem roundK_ret {id : Nat} {Post : Bx (DV → GS → Prop)} {env e0 : Env} {ps : List Tmp} {a b : Code} {σ : GS} (h : σ[id]? = some (.loop ⟨e0, ps, a, b, .busy, none⟩)) (k : Post.val (.bool false) (σ.set id (.loop ⟨e0, ps, a, b, .done, some .ret⟩))) : @roundK id Post .ret env σ := ⟨_, h, k⟩
end Go.Gh
namespace Go.Gh
open Go.RowKit Go.Proofs
set_option linter.unusedVariables false
set_option linter.unusedSimpArgs false
set_option maxRecDepth 100000
theorem count_round {σ : GS} {env : Env} {M : GObj} {τ : GS} {i : Nat} {v : Int} {E : List (Int × DV)} {Post : DV → GS → Prop}
    (hlen : env.length = 27) (h2 : env[2]? = some (.ptr σ.length 0)) (h3 : env[3]? = some (.ptr (σ.length + 1) 0)) (h4 : env[4]? = some (.ptr (σ.length + 3) 0))
    (hM : ∀ τ, MpO kint (σ ++ (.row false [.int .i64 0] :: .row false [.bool false] :: M :: τ)) (σ.length + 2) E) (hE : ∀ k u, kget k E = some u → u = .bool true)
    (k1 : isVar v = true → kget v E = none → ∀ M' τ', (∀ τ, MpO kint (σ ++ (.row false [.int .i64 0] :: .row false [.bool false] :: M' :: τ)) (σ.length + 2) (kset v (.bool true) E)) → Post (.bool true) (σ ++ (.row false [.int .i64 0] :: .row false [.bool false] :: M' :: .row false [.map (σ.length + 2)] :: .loop (lgR env [10, 11] (rngA Try.f33 0) (rngB Try.f33 0)) :: τ')))
    (k0 : (isVar v = true → (kget v E).isSome = true) → ∀ τ', Post (.bool false) (σ ++ (.row false [.int .i64 0] :: .row false [.bool false] :: M :: .row false [.map (σ.length + 2)] :: .loop ⟨env, [10, 11], rngA Try.f33 0, rngB Try.f33 0, .done, some .ret⟩ :: τ'))) :
    GRound Try.prog (σ.length + 4) [.int .i64 i, .int .i64 v] (σ ++ (.row false [.int .i64 0] :: .row false [.bool false] :: M :: .row false [.map (σ.length + 2)] :: .loop (lgR env [10, 11] (rngA Try.f33 0) (rngB Try.f33 0)) :: τ)) Post := by
  refine round_of (env := env) (ps := [10, 11]) (a := rngA Try.f33 0) (b := rngB Try.f33 0) seatfollows (by simp) ca_prefix_count_0 cb_prefix_count_0 rfl ?_
  have h2' : ∀ h, env[2]'h = .ptr σ.length 0 := fun h => by rw [List.getElem?_eq_getElem h] at h2; exact Option.some.inj h2
  have h3' : ∀ h, env[3]'h = .ptr (σ.length + 1) 0 := fun h => by rw [List.getElem?_eq_getElem h] at h3; exact Option.some.inj h3
  have h4' : ∀ h, env[4]'h = .ptr (σ.length + 3) 0 := fun h => by rw [List.getElem?_eq_getElem h] at h4; exact Option.some.inj h4
  have hlk : ∀ τ, gload (.lookup (.int .i64) (.bool false) false) [.map (σ.length + 2), .int .i64 v] (σ ++ (.row false [.int .i64 0] :: .row false [.bool false] :: M :: τ)) = some (.bool (kget v E).isSome) := fun τ => by
    rw [(hM τ).lookup (kt := .int .i64) v (.bool false) false]
    cases hk : kget v E with
    | none => rfl
    | some u => rw [hE _ _ hk]; rfl
  simp [GA_prefix_count_0, GB_prefix_count_0, putAll, List.getElem?_set, hlen, h2', h3', h4', lgR]
  by_cases c1 : 1 ≤ v
  rotate_left
  · have c1' : v < 1 := by omega
    simp [c1', List.getElem?_set, hlen, h2', h3', h4']
    refine roundK_ret (e0 := env) (ps := [10, 11]) (a := rngA Try.f33 0) (b := rngB Try.f33 0) (by simp) ?_
    rw [set_tail]
    exact k0 (fun h => by simp [isVar, c1] at h) _
  have c1' : ¬ v < 1 := by omega
  by_cases c2 : v ≤ 65536
  rotate_left
  · have c2' : 65536 < v := by omega
    simp [c1', c2', List.getElem?_set, hlen, h2', h3', h4']
    refine roundK_ret (e0 := env) (ps := [10, 11]) (a := rngA Try.f33 0) (b := rngB Try.f33 0) (by simp) ?_
    rw [set_tail]
    exact k0 (fun h => by simp [isVar, c2] at h) _
  have c2' : ¬ 65536 < v := by omega
  simp [c1', c2', List.getElem?_set, hlen, h2', h3', h4', hlk]
  cases hk : kget v E with
  | some u =>
    simp [List.getElem?_set, hlen, h2', h3', h4']
    refine roundK_ret (e0 := env) (ps := [10, 11]) (a := rngA Try.f33 0) (b := rngB Try.f33 0) (by simp) ?_
    rw [set_tail]
    exact k0 (fun _ => by simp [hk]) _
  | none =>
    obtain ⟨o, q1, q2⟩ := (hM (.row false [.map (σ.length + 2)] :: .loop ⟨env, [10, 11], rngA Try.f33 0, rngB Try.f33 0, .busy, none⟩ :: τ)).set (kt := .int .i64) v (.bool true)
    rw [set_tail] at q1 q2
    simp [List.getElem?_set, hlen, h2', h3', h4', q1]
    refine roundK_normal (e0 := env) (ps := [10, 11]) (a := rngA Try.f33 0) (b := rngB Try.f33 0) (by simp) ?_
    rw [set_tail]
    exact k1 (by simp [isVar, c1, c2]) hk _ _ fun τ1 => q2.fit (by simp)
/-- A set of numbers as a map to true. -/
def setE (l : List Int) : List (Int × DV) := l.map fun v => (v, .bool true)
theorem setE_keys (l : List Int) : (setE l).map (·.1) = l := by simp [setE, Function.comp_def]
theorem setE_true {l : List Int} (k : Int) (u : DV) (h : kget k (setE l) = some u) : u = .bool true := by
  obtain ⟨v, _, he⟩ := List.mem_map.1 (kget_mem h)
  cases he; rfl
theorem setE_some {l : List Int} {k : Int} : (kget k (setE l)).isSome = l.contains k := by
  cases h : kget k (setE l) with
  | none =>
    have := kget_none.1 h
    rw [setE_keys] at this
    simp [this]
  | some u =>
    have : k ∈ (setE l).map (·.1) := List.mem_map.2 ⟨_, kget_mem h, rfl⟩
    rw [setE_keys] at this
    simp [this]
theorem setE_push {l : List Int} {v : Int} (h : kget v (setE l) = none) : kset v (.bool true) (setE l) = setE (l ++ [v]) := by
  rw [kset_new (kget_none.1 h)]; simp [setE]
theorem count_walk {p : List Blk} {σ : GS} {env : Env} (hp : lensB p < 2 ^ 40) (hlen : env.length = 27) (h2 : env[2]? = some (.ptr σ.length 0)) (h3 : env[3]? = some (.ptr (σ.length + 1) 0)) (h4 : env[4]? = some (.ptr (σ.length + 3) 0)) {Q : Exit → Env → GS → Prop}
    (kN : singleS [] (flatB p) = true → ∀ M o τ, (∀ τ, MpO kint (σ ++ (.row false [.int .i64 0] :: .row false [.bool false] :: M :: τ)) (σ.length + 2) (setE (flatB p))) → Q .normal env (σ ++ (.row false [.int .i64 0] :: .row false [.bool false] :: M :: .row false [.map (σ.length + 2)] :: o :: τ)))
    (kR : singleS [] (flatB p) = false → ∀ M o τ, Q .ret env (σ ++ (.row false [.int .i64 0] :: .row false [.bool false] :: M :: .row false [.map (σ.length + 2)] :: o :: τ))) :
    GCall Try.prog F_prefix_each_1 [.yield (σ.length + 4), .fptr [fblks p]] (σ ++ [.row false [.int .i64 0], .row false [.bool false], .mp [] ([], 0), .row false [.map (σ.length + 2)], .loop (lgR env [10, 11] (rngA Try.f33 0) (rngB Try.f33 0))]) fun _ σ' => grange (σ.length + 4) env Q σ' := by
  refine p_each1_ok hp (fun n σ' => singleS [] (flatB p) = singleS ((flatB p).take n) ((flatB p).drop n) ∧ ∃ M τ, σ' = σ ++ (.row false [.int .i64 0] :: .row false [.bool false] :: M :: .row false [.map (σ.length + 2)] :: .loop (lgR env [10, 11] (rngA Try.f33 0) (rngB Try.f33 0)) :: τ) ∧ ∀ τ, MpO kint (σ ++ (.row false [.int .i64 0] :: .row false [.bool false] :: M :: τ)) (σ.length + 2) (setE ((flatB p).take n)))
    (fun σ' => singleS [] (flatB p) = false ∧ ∃ M τ, σ' = σ ++ (.row false [.int .i64 0] :: .row false [.bool false] :: M :: .row false [.map (σ.length + 2)] :: .loop ⟨env, [10, 11], rngA Try.f33 0, rngB Try.f33 0, .done, some .ret⟩ :: τ)) ?_ ?_ ?_ ?_ ?_
  · rintro n _ o ⟨h, M, τ, rfl, hM⟩
    exact ⟨h, M, τ ++ [o], by simp, hM⟩
  · refine ⟨by simp, _, [], rfl, fun τ => ?_⟩
    exact ⟨by simp [setE], ([], 0), ⟨by simp [setE], by simp, by simp⟩, by simp [kenc, setE]⟩
  · rintro n i v _ hn ⟨h, M, τ, rfl, hM⟩
    have hv : (flatB p)[n]? = some v := by
      have := congrArg (fun o => o.map (·.2)) hn
      simpa [← List.getElem?_map, prs_snd] using this
    rw [drop_get hv, singleS] at h
    refine count_round hlen h2 h3 h4 hM (fun k u => setE_true k u) (fun c1 c2 M' τ' hM' => .inl ⟨rfl, ?_, M', τ', rfl, ?_⟩) fun c τ' => .inr ⟨rfl, ?_, M, τ', rfl⟩
    · have : ((flatB p).take n).contains v = false := by rw [← setE_some, c2]; rfl
      rw [h, c1, this, take_get hv]; simp
    · rw [setE_push c2, ← take_get hv] at hM'; exact hM'
    · rw [h]
      cases hc : isVar v with
      | false => rfl
      | true =>
        have := c hc
        rw [setE_some] at this
        rw [this]; rfl
  · rintro _ ⟨h, M, τ, rfl, hM⟩
    rw [List.take_length] at hM
    rw [List.drop_length, singleS] at h
    refine grange_normal (e0 := env) (ps := [10, 11]) (a := rngA Try.f33 0) (b := rngB Try.f33 0) (by simp) ?_
    rw [set_tail]
    exact kN h _ _ _ hM
  · rintro _ ⟨h, M, τ, rfl⟩
    refine grange_ret (e0 := env) (ps := [10, 11]) (a := rngA Try.f33 0) (b := rngB Try.f33 0) (by simp) ?_
    rw [set_tail]
    exact kR h _ _ _
theorem p_count_ok {p : List Blk} {σ : GS} {Post : DV → GS → Prop} (hp : lensB p < 2 ^ 40) (h : Post (.tuple [.int .i64 (if singleS [] (flatB p) = true then (flatB p).length else 0), .bool (singleS [] (flatB p))]) σ) : GCall Try.prog F_prefix_count [fblks p] σ Post := by
  refine GCall.say (r := .tuple [.int .i64 (if singleS [] (flatB p) = true then (flatB p).length else 0), .bool (singleS [] (flatB p))]) ?_ (by simp) h
  refine gc_prefix_count ?_
  simp [G_prefix_count, genv0, List.replicate]
  refine p_each_ok ?_
  simp
  refine rangeB_intro ?_
  simp
  refine count_walk hp (by simp) (by simp) (by simp) (by simp) (fun hs M o τ hM => ?_) (fun hs M o τ => ?_)
  · have hml : gload .mlen [.map (σ.length + 2)] (σ ++ (.row false [.int .i64 0] :: .row false [.bool false] :: M :: .row false [.map (σ.length + 2)] :: o :: τ)) = some (.int .i64 (flatB p).length) := by
      rw [(hM _).mlen]; simp [setE]
    simp [hml, hs]
  · simp [hs]
end Go.Gh
namespace Go.Gh
open Go.RowKit Go.Proofs
set_option linter.unusedVariables false
set_option linter.unusedSimpArgs false
set_option maxRecDepth 100000
theorem p_May_ok {p : List Blk} {σ : GS} {Post : DV → GS → Prop} (hp : lensB p < 2 ^ 40) (h : Post (.bool (mayB p)) σ) : GCall Try.prog F_prefix_May [fblks p] σ Post := by
  have hlb := lensB_flat p
  refine GCall.say (r := .bool (mayB p)) ?_ rfl h
  refine gc_prefix_May ?_
  simp [G_prefix_May, genv0, List.replicate]
  refine gfor p.length (fun i e σ' => Fr σ.length σ σ' ∧ altB none p = altB (prevB p i) (p.drop i) ∧ e = mkEnv 44 [(0, fblks p), (7, fblks p), (8, .int .i64 p.length), (9, .int .i64 i)]) _ ?_ ⟨.rfl', by simp [prevB], rfl⟩ ?_
  · simp [mkEnv, List.replicate]
  rintro i _ σ1 hi ⟨hF, hI, rfl⟩
  simp [mkEnv, List.replicate]
  by_cases hlt : i < p.length
  · obtain ⟨b, hb⟩ := nth_lt hlt
    have hb' := nth_get hb
    rw [drop_get hb', altB_step] at hI
    have es : IntKind.i64.wrap ((i : Int) + 1) = (i : Int) + 1 := by rw [wrap_small] <;> omega
    by_cases h0 : b.2.length = 0
    · have h0' : b.2 = [] := List.length_eq_zero_iff.1 h0
      simp [hlt, hb, h0']
      simp [mayB, hI, h0']
      exact hF.app _
    have h0' : ¬ (b.2 = []) := fun e => h0 (by rw [e]; rfl)
    have h0'' : ¬ ((b.2.length : Int) = 0) := by omega
    cases i with
    | zero =>
      simp [hlt, hb, h0', h0'']
      exact forK_go _ hlt (by simp [mkEnv, List.replicate]) ⟨hF.app _, by simp [hI, prevB, hb', h0'], rfl⟩
    | succ i =>
      obtain ⟨c, hc⟩ := nth_lt (l := p) (i := i) (by omega)
      have hc' := nth_get hc
      have ew' : IntKind.i64.wrap (i : Int) = i := by rw [wrap_small] <;> omega
      have hge : (0 : Int) ≤ (i : Int) + 1 := by omega
      have hgt : (0 : Int) < (i : Int) + 1 := by omega
      have htn : ((i : Int) + 1).toNat = i + 1 := by omega
      have es2 : IntKind.i64.wrap ((i : Int) + 1 + 1) = (i : Int) + 1 + 1 := by rw [wrap_small] <;> omega
      by_cases he : c.1 = b.1
      · simp [hlt, hb, h0', h0'', hge, hgt, htn, ew', hc, he]
        simp [mayB, hI, prevB, hc', he]
        exact hF.app _
      · have he2 : (c.1 == b.1) = false := by simpa using he
        simp [hlt, hb, h0', h0'', hge, hgt, htn, ew', hc, he2, es2]
        exact forK_go _ hlt (by simp [mkEnv, List.replicate]) ⟨hF.app _, by simp [hI, prevB, hc', he, h0', hb'], rfl⟩
  · have : i = p.length := by omega
    subst this
    rw [List.drop_length] at hI
    have hI' : altB none p = true := hI
    simp
    refine p_count_ok hp ?_
    cases hs : singleS [] (flatB p) with
    | false =>
      simp
      simp [mayB, hs]
      exact hF
    | true =>
      by_cases c : (flatB p).length ≤ 1024
      · have c' : ((flatB p).length : Int) ≤ 1024 := by omega
        simp [c']
        simp [mayB, hI', c, hs]
        exact hF
      · have c' : ¬ ((flatB p).length : Int) ≤ 1024 := by omega
        simp [c']
        simp [mayB, c]
        exact hF
theorem p_abs_ok {x : Int} {σ : GS} {Post : DV → GS → Prop} (h : Post (.int .i64 (absW x)) σ) : GCall Try.prog F_prefix_abs [.int .i64 x] σ Post := by
  refine gc_prefix_abs ?_
  simp [G_prefix_abs, genv0, List.replicate]
  exact h
theorem r_Abs_ok {x : Int} {σ : GS} {Post : DV → GS → Prop} (h : Post (.int .i64 (if x < 0 then IntKind.i64.wrap (-x) else x)) σ) : GCall Try.prog F_skolemref03_Abs [.int .i64 x] σ Post := by
  refine gc_skolemref03_Abs ?_
  by_cases c : x < 0
  · simp [G_skolemref03_Abs, genv0, List.replicate, c]
    simpa [c] using h
  · simp [G_skolemref03_Abs, genv0, List.replicate, c]
    simpa [c] using h
end Go.Gh
namespace Go.Gh
open Go.RowKit Go.Proofs
set_option linter.unusedVariables false
set_option linter.unusedSimpArgs false
set_option maxRecDepth 100000
def CapOk (s : DV) : Prop := ∀ a b n z c, s = .slice a b n z (some c) → n ≤ c
theorem append_cap {sz by_ : Nat} {s x v : DV} {σ σ' : GS} (h : gappend sz by_ s x σ = some (v, σ')) (hs : CapOk s) : CapOk v := by
  unfold gappend at h
  repeat' (split at h)
  all_goals first | (cases h; done) | skip
  all_goals
    cases h
    first
    | exact hs
    | (intro a b n z c e; cases e; done)
    | (intro a b n z c e; cases e; assumption)
theorem clone_ok {s : DV} {xs : List Int} {n : Nat} {σ : GS} {Post : DV → GS → Prop} (hq : nilq s ≠ []) (hn : true ∈ nilq s → xs = []) (hr : ∀ τ, gread 1 s (σ ++ τ) = some (xs.flatMap eint)) (hg : glen s = xs.length) (hl : xs.length < 2 ^ 43) (hnn : n ≤ σ.length)
    (k : ∀ s' σ', Own n 1 eint σ' s' xs → Fr σ.length σ σ' → (∀ i, s'.has i → σ.length ≤ i) → CapOk s' → Post s' σ') : GCall Try.prog F_slices_Clone_int_int [s] σ Post := by
  refine gc_slices_Clone_int_int ?_
  simp [G_slices_Clone_int_int, genv0, List.replicate]
  refine eqn_any hq fun b hb => ?_
  cases b with
  | true =>
    have := hn hb
    subst this
    simp
    exact k .nils σ .nil (.refl (Nat.le_refl _)) (fun i ⟨_, _, _, _, e⟩ => by cases e) (fun _ _ _ _ _ e => by cases e)
  | false =>
    have h0 : Own σ.length 1 eint (σ ++ [.row false (gzeros [.int .i64 0] 0)]) (.slice σ.length 0 0 1 (some 0)) ([] : List Int) := .inr ⟨σ.length, some 0, [], Nat.le_refl _, by simp, by simp [gzeros], fun c hc => by cases hc; simp⟩
    obtain ⟨s', σ', q1, q2, q3, q4, q5, q6, _⟩ := h0.append (by_ := 8) (ys := xs) (x := s) (fun _ => rfl) (hr _) hg (fun y _ => by simp) (by simp) (by simp; omega) (by decide)
    simp [q1]
    refine k s' σ' (by simpa using q2.weaken hnn) (((Fr.refl (Nat.le_refl _)).app _).trans q3) (fun i hi => ?_) (append_cap (sz := 1) (by_ := 8) (s := .slice σ.length 0 0 1 (some 0)) q1 (fun _ _ _ _ _ e => by cases e; exact Nat.le_refl _))
    exact q2.has_ge hi
theorem clone_frz {xs : List Int} {n : Nat} {σ : GS} {Post : DV → GS → Prop} (hl : xs.length < 2 ^ 43) (hnn : n ≤ σ.length)
    (k : ∀ s' σ', Own n 1 eint σ' s' xs → Fr σ.length σ σ' → (∀ i, s'.has i → σ.length ≤ i) → CapOk s' → Post s' σ') : GCall Try.prog F_slices_Clone_int_int [fints xs] σ Post := by
  refine clone_ok ?_ ?_ (fun τ => ?_) (by simp [glen]) hl hnn k
  · simp only [nilq]; split <;> simp
  · simp only [nilq, List.length_map]; intro h; split at h
    · simp at h
    · exact List.length_eq_zero_iff.1 (by omega)
  · simp [gread, flatMap_flatten]
theorem idx_live {f : FuncId} {pre caps : List DV} {n : Nat} {s : DV} {xs : List Int} {p : Int → Bool} {σ : GS} {Post : DV → GS → Prop} (ho : Own n 1 eint σ s xs) (hl : xs.length < 2 ^ 60)
    (hf : ∀ x ∈ xs, ∀ K : DV → GS → Prop, K (.bool (p x)) σ → GCall Try.prog f (pre ++ .int .i64 x :: caps) σ K) (h : Post (.int .i64 (idxF p 0 xs)) σ) :
    GCall Try.prog F_slices_IndexFunc_int_int [s, .func f pre caps] σ Post := by
  refine gc_slices_IndexFunc_int_int ?_
  simp [G_slices_IndexFunc_int_int, genv0, List.replicate, ho.len]
  refine gfor xs.length (fun i e σ' => σ' = σ ∧ idxF p 0 xs = idxF p i (xs.drop i) ∧ e = mkEnv 19 [(0, s), (1, .func f pre caps), (7, .int .i64 xs.length), (8, .int .i64 i)]) _ ?_ ⟨rfl, by simp, rfl⟩ ?_
  · simp [mkEnv, List.replicate]
  rintro i _ _ hi ⟨rfl, hI, rfl⟩
  simp [mkEnv, List.replicate]
  by_cases hlt : i < xs.length
  · obtain ⟨y, hy⟩ := get_lt hlt
    rw [drop_get hy] at hI
    obtain ⟨id, g1, g2, g3, g4⟩ := ho.get (fun _ => rfl) hy (k := .i64)
    have g5 := g4 0 (by omega)
    simp at g2 g5
    simp [hlt, g2, g5]
    refine hf y (List.mem_of_getElem? hy) _ ?_
    by_cases h1 : p y = true
    · simp [h1]
      simpa [hI, idxF, h1] using h
    · simp [h1, wrap_suc (show i < _ by omega)]
      exact forK_go _ hlt (by simp [mkEnv, List.replicate]) ⟨rfl, by simp [hI, idxF, h1], rfl⟩
  · have : i = xs.length := by omega
    subst this
    simp
    simpa [hI, idxF] using h
theorem idxF_split {p : Int → Bool} {xs : List Int} {i : Nat} {x : Int} (h1 : xs[i]? = some x) (h3 : p x = true) (h4 : ∀ j y, j < i → xs[j]? = some y → p y = false) : (xs.take (i + 1)).filter (fun v => !p v) = xs.take i ∧ (xs.take i).length = i := by
  have hi := get_dom h1
  refine ⟨?_, by simp; omega⟩
  rw [take_get h1, List.filter_append]
  simp [h3]
  intro a ha
  obtain ⟨j, hj⟩ := List.mem_iff_getElem?.1 ha
  rw [List.getElem?_take] at hj
  split at hj
  · exact h4 j a (by assumption) hj
  · cases hj
theorem del_ok {f : FuncId} {pre caps : List DV} {n : Nat} {s : DV} {xs : List Int} {p : Int → Bool} {σ : GS} {Post : DV → GS → Prop} (ho : Own n 1 eint σ s xs) (hcap : CapOk s) (hl : xs.length < 2 ^ 40)
    (hf : ∀ x ∈ xs, ∀ σ', (∀ j, ¬ s.has j → σ'[j]? = σ[j]?) → ∀ K : DV → GS → Prop, K (.bool (p x)) σ' → GCall Try.prog f (pre ++ .int .i64 x :: caps) σ' K)
    (k : ∀ σ', (∀ j, ¬ s.has j → σ'[j]? = σ[j]?) → σ'.length = σ.length → Post (fints (xs.filter fun v => !p v)) σ') : GCall Try.prog F_slices_DeleteFunc_int_int [s, .func f pre caps] σ Post := by
  have fin : ∀ (σ' : GS) (s' : DV) (ys : List Int), Own n 1 eint σ' s' ys → (∀ j, s'.has j → s.has j) → (∀ j, ¬ s.has j → σ'[j]? = σ[j]?) → σ'.length = σ.length → ys = xs.filter (fun v => !p v) → ∃ S v', Rd (Go.Gh.frz S σ') (RO (Go.Gh.frz S σ')) s' v' ∧ Post v' (Go.Gh.frz S σ') := by
    rintro σ' s' ys h1 h2 h3 h4 rfl
    refine ⟨fun i => s'.idOf == some i, _, h1.rdF fun _ => rfl, k _ (fun j hj => ?_) (by rw [frz_len, h4])⟩
    rw [frz_off (h1.idOf_has fun hh => hj (h2 j hh))]; exact h3 j hj
  refine GCall.out ?_
  refine gc_slices_DeleteFunc_int_int ?_
  simp [G_slices_DeleteFunc_int_int, genv0, List.replicate]
  refine idx_live ho (by omega) (fun x hx K hK => hf x hx σ (fun _ _ => rfl) K hK) ?_
  rcases idxF_cases p xs 0 with ⟨h1, h2⟩ | ⟨i0, x0, h1, h2, h3, h4⟩
  · simp [h1]
    exact fin σ s xs ho (fun _ h => h) (fun _ _ => rfl) rfl (List.filter_eq_self.2 fun a ha => by simp [h2 a ha]).symm
  rw [Nat.zero_add] at h1
  have hi0 := get_dom h2
  have hne : ¬ ((i0 : Int) = -1) := by omega
  have ew : IntKind.i64.wrap ((i0 : Int) + 1) = (i0 : Int) + 1 := by rw [wrap_small] <;> omega
  obtain ⟨f1, f2⟩ := idxF_split h2 h3 h4
  rw [h1]
  simp [hne, ew]
  rcases ho with ⟨_, rfl⟩ | ⟨id, cap, rest, hge, rfl, hrow, hcp⟩
  · simp at hi0
  have hhas : ∀ t, t = id → (DV.slice id 0 xs.length 1 cap).has t := fun t e => by subst e; exact ⟨_, _, _, _, rfl⟩
  obtain ⟨N, hN⟩ : ∃ N, xs.length = N := ⟨_, rfl⟩
  have hrow' : σ[id]? = some (.row false (xs.map (.int .i64) ++ rest)) := by rw [hrow, flatMap_one]
  rw [hN]
  refine gwhile (mkEnv 42 [(0, .slice id 0 N 1 cap), (1, .func f pre caps), (5, .int .i64 i0), (6, .int .i64 ((i0 + 1 : Nat) : Int))]) (N - (i0 + 1)) (fun m e σ' => ∃ (j i : Nat) (ys : List Int), m = N - j ∧ j ≤ N ∧ i < j ∧ e = mkEnv 42 [(0, .slice id 0 N 1 cap), (1, .func f pre caps), (5, .int .i64 i), (6, .int .i64 j)] ∧ σ'[id]? = some (.row false (ys.map (.int .i64) ++ rest)) ∧ ys.length = N ∧ ys.take i = (xs.take j).filter (fun v => !p v) ∧ ys.drop j = xs.drop j ∧ (∀ t, t ≠ id → σ'[t]? = σ[t]?) ∧ σ'.length = σ.length) ?_ ⟨i0 + 1, i0, xs, rfl, by omega, by omega, rfl, hrow', hN, f1.symm, rfl, fun _ _ => rfl, rfl⟩ ?_
  · simp [mkEnv, List.replicate]
  rintro m _ σ' ⟨j, i, ys, rfl, hj, hij, rfl, hr, hyl, hyi, hyj, hoth, hlen⟩
  simp [mkEnv, List.replicate]
  by_cases hlt : j < N
  · obtain ⟨y, hy⟩ := get_lt (xs := xs) (i := j) (by omega)
    have hyy : ys[j]? = some y := by
      have := congrArg (fun l => l[0]?) hyj
      simpa [hy] using this
    have hia := iaddr_own (id := id) (n := N) (sz := 1) (i := j) (k := .i64) (cap := cap) hlt
    have hib := iaddr_own (id := id) (n := N) (sz := 1) (i := i) (k := .i64) (cap := cap) (by omega)
    simp only [Nat.mul_one] at hia hib
    have hld : gload (.load 1 false) [.ptr id j] σ' = some (.int .i64 y) := by
      rw [ld_at hr, List.getElem?_append_left (by simp; omega)]; simp [hyy]
    have es : IntKind.i64.wrap ((j : Int) + 1) = ((j + 1 : Nat) : Int) := wrap_suc (by omega)
    have es2 : IntKind.i64.wrap ((i : Int) + 1) = ((i + 1 : Nat) : Int) := wrap_suc (by omega)
    simp [hlt, hia, hld]
    refine hf y (List.mem_of_getElem? hy) σ' (fun t ht => hoth t fun e => ht (hhas t e)) _ ?_
    by_cases hp : p y = true
    · simp [hp, es]
      refine whK_go (N - (j + 1)) _ (by omega) ?_ ⟨j + 1, i, ys, rfl, by omega, by omega, rfl, hr, hyl, ?_, ?_, hoth, hlen⟩
      · simp [mkEnv, List.replicate]
      · rw [take_get hy, List.filter_append, hyi]; simp [hp]
      · have := congrArg (List.drop 1) hyj; simpa [List.drop_drop, Nat.add_comm] using this
    · have hsto : gimp (.store 1) [.ptr id i, .int .i64 y] σ' = some (.tuple [], σ'.set id (.row false ((ys.set i y).map (.int .i64) ++ rest))) := by
        simp only [gimp, hr, DV.cells]
        rw [if_pos ⟨rfl, by simp; omega, rfl⟩, over_one (by simp; omega), List.set_append_left _ _ (by simp; omega), List.map_set]
      simp [hp, hib, hsto, es, es2]
      refine whK_go (N - (j + 1)) _ (by omega) ?_ ⟨j + 1, i + 1, ys.set i y, rfl, by omega, by omega, rfl, ?_, by simp [hyl], ?_, ?_, fun t ht => ?_, by simpa using hlen⟩
      · simp [mkEnv, List.replicate]
      · rw [List.getElem?_set_self (get_dom hr)]; simp
      · rw [take_get hy, List.filter_append, ← hyi]
        rw [List.take_succ_eq_append_getElem (by simp; omega), List.take_set, List.set_eq_of_length_le (by simp; omega)]
        simp [hp]
      · rw [List.drop_set_of_lt (by omega)]
        have := congrArg (List.drop 1) hyj; simpa [List.drop_drop, Nat.add_comm] using this
      · rw [List.getElem?_set_ne (Ne.symm ht)]; exact hoth t ht
  · have : j = N := by omega
    subst this
    rw [← hN, List.take_length] at hyi
    have hcl : ∀ c, cap = some c → j ≤ c := fun c hc => by rw [← hN]; exact hcap id 0 xs.length 1 c (by rw [hc])
    have hcg : j ≤ cap.getD j := by cases hc : cap with
      | none => simp
      | some c => simp; exact hcl c hc
    have hsl1 : gpure (.slice 1 true false false) [.slice id 0 j 1 cap, .int .i64 i] = some (.slice id i (j - i) 1 (cap.map fun c => c - i)) := by
      simp only [gpure, gslice, if_true, gbm, Option.bind_some, gbh, gbl, gbound]
      rw [if_pos ⟨rfl, hcg⟩]
      simp only [Option.bind_some]
      rw [if_pos (by omega)]
      cases cap <;> simp
    have hsl2 : gpure (.slice 1 false true false) [.slice id 0 j 1 cap, .int .i64 i] = some (.slice id 0 i 1 cap) := by
      simp only [gpure, gslice, if_true, gbm, Option.bind_some, gbh, gbl, gbound]
      rw [if_pos (by omega)]
      simp only [Option.bind_some]
      cases cap <;> simp
    have hclr : gimp (.clear 1 [.int .i64 0]) [.slice id i (j - i) 1 (cap.map fun c => c - i)] σ' = some (.tuple [], σ'.set id (.row false ((ys.take i).map (.int .i64) ++ (List.replicate (j - i) (.int .i64 0) ++ rest)))) := by
      simp only [gimp, hr]
      rw [if_neg (by omega), if_pos trivial, if_pos ⟨by simp; omega, by simp [gzeros]⟩]
      congr 3
      unfold over
      simp only [gzeros, List.length_replicate, Nat.mul_one]
      rw [List.take_append_of_le_length (by simp; omega), ← List.map_take, List.drop_append, List.drop_eq_nil_of_le (by simp; omega)]
      simp
      rw [show i + (j - i) - ys.length = 0 by omega]; simp
    simp [hsl1, hclr, hsl2]
    refine fin _ _ ((ys.take i)) (.inr ⟨id, cap, List.replicate (j - i) (.int .i64 0) ++ rest, hge, by simp; omega, ?_, fun c hc => ?_⟩) (fun t ⟨_, _, _, _, e⟩ => ⟨_, _, _, _, by cases e; rfl⟩) (fun t ht => ?_) (by simpa using hlen) hyi
    · rw [List.getElem?_set_self (get_dom hr), flatMap_one, List.map_take]
    · have := hcp c hc
      simp at this ⊢; omega
    · rw [List.getElem?_set_ne fun e => ht (hhas t e.symm)]
      exact hoth t fun e => ht (hhas t e)
end Go.Gh
namespace Go.Gh
open Go.RowKit Go.Proofs
set_option linter.unusedVariables false
set_option linter.unusedSimpArgs false
set_option maxRecDepth 100000
/-- Where a block stands, by its index. -/
def plD (p : List Blk) (k : Nat) : DV := placeV (k, ((p[k]?).map (·.1)).getD false)
theorem place_round {p : List Blk} {σ : GS} {env : Env} {M : GObj} {τ : GS} {i : Nat} {v : Int} {b : Blk} {E : List (Int × DV)} {Post : DV → GS → Prop} (hp : lensB p < 2 ^ 40) (hb : p[i]? = some b)
    (hlen : env.length = 31) (h1 : env[1]? = some (.ptr σ.length 0)) (h3 : env[3]? = some (.ptr (σ.length + 2) 0))
    (hM : ∀ τ, MpO kint (σ ++ (.row false [fblks p] :: M :: τ)) (σ.length + 1) E) (hE : ∀ k u, kget k E = some u → ∃ x, u = placeV x)
    (k1 : ∀ M' τ', (∀ τ, MpO kint (σ ++ (.row false [fblks p] :: M' :: τ)) (σ.length + 1) (plStep (plD p) E (i, v))) → Post (.bool true) (σ ++ (.row false [fblks p] :: M' :: .row false [.map (σ.length + 1)] :: .loop (lgR env [11, 12] (rngA Try.f42 0) (rngB Try.f42 0)) :: τ'))) :
    GRound Try.prog (σ.length + 3) [.int .i64 i, .int .i64 v] (σ ++ (.row false [fblks p] :: M :: .row false [.map (σ.length + 1)] :: .loop (lgR env [11, 12] (rngA Try.f42 0) (rngB Try.f42 0)) :: τ)) Post := by
  refine round_of (env := env) (ps := [11, 12]) (a := rngA Try.f42 0) (b := rngB Try.f42 0) seatfollows (by simp) ca_prefix_places_0 cb_prefix_places_0 rfl ?_
  have h1' : ∀ h, env[1]'h = .ptr σ.length 0 := fun h => by rw [List.getElem?_eq_getElem h] at h1; exact Option.some.inj h1
  have h3' : ∀ h, env[3]'h = .ptr (σ.length + 2) 0 := fun h => by rw [List.getElem?_eq_getElem h] at h3; exact Option.some.inj h3
  have hb2 : nth p i = some b := hb
  have hlk : ∀ τ, gload (.lookup (.int .i64) (.agg [.int .i64 0, .bool false]) true) [.map (σ.length + 1), .int .i64 v] (σ ++ (.row false [fblks p] :: M :: τ)) = some (match kget v E with | some u => .tuple [u, .bool true] | none => .tuple [.agg [.int .i64 0, .bool false], .bool false]) := fun τ => by
    rw [(hM τ).lookup (kt := .int .i64) v _ true]
    cases hk : kget v E <;> rfl
  simp [GA_prefix_places_0, GB_prefix_places_0, putAll, List.getElem?_set, hlen, h1', h3', lgR, hlk]
  cases hk : kget v E with
  | some u =>
    obtain ⟨x, rfl⟩ := hE _ _ hk
    simp [placeV, List.getElem?_set, hlen, h1', h3']
    refine roundK_normal (e0 := env) (ps := [11, 12]) (a := rngA Try.f42 0) (b := rngB Try.f42 0) (by simp) ?_
    rw [set_tail]
    refine k1 _ _ fun τ1 => ?_
    unfold plStep; rw [if_pos (by simp [hk])]
    exact hM τ1
  | none =>
    simp [List.getElem?_set, hlen, h1', h3', hb2, fill_flat2]
    obtain ⟨o, q1, q2⟩ := (hM (.row false [.map (σ.length + 1)] :: .loop ⟨env, [11, 12], rngA Try.f42 0, rngB Try.f42 0, .busy, none⟩ :: (τ ++ [.row false [.int .i64 0, .bool false]]))).set (kt := .int .i64) v (plD p i)
    rw [set_tail] at q1 q2
    have hd : plD p i = .agg [.int .i64 i, .bool b.1] := by simp [plD, placeV, hb]
    rw [hd] at q1
    simp at q1
    simp [q1]
    refine roundK_normal (e0 := env) (ps := [11, 12]) (a := rngA Try.f42 0) (b := rngB Try.f42 0) (by simp) ?_
    rw [set_tail]
    refine k1 _ _ fun τ1 => ?_
    unfold plStep; rw [if_neg (by simp [hk])]
    rw [kset_new (kget_none.1 hk)] at q2
    exact q2.fit (by simp)
theorem plE_place {p : List Blk} (l : List (Nat × Int)) : ∀ E, (∀ (k : Int) u, kget k E = some u → ∃ x, u = placeV x) → ∀ (k : Int) u, kget k (l.foldl (plStep (plD p)) E) = some u → ∃ x, u = placeV x := by
  intro E hE k u h
  rw [plE_get] at h
  cases hk : kget k E with
  | some w => rw [hk] at h; cases h; exact hE _ _ hk
  | none =>
    rw [hk] at h
    simp only [Option.map_eq_some_iff] at h
    obtain ⟨x, _, rfl⟩ := h
    exact ⟨_, rfl⟩
theorem plE_final (p : List Blk) : PlaceE p (plE (plD p) (prs 0 p)) := by
  intro v
  unfold plE
  rw [plE_get]
  simp only [kget]
  refine findO_prs (plD p) v p 0 fun j b hj => ?_
  simp [plD, hj]
theorem place_walk {p : List Blk} {σ : GS} {env : Env} (hp : lensB p < 2 ^ 40) (hlen : env.length = 31) (h1 : env[1]? = some (.ptr σ.length 0)) (h3 : env[3]? = some (.ptr (σ.length + 2) 0)) {Q : Exit → Env → GS → Prop}
    (kN : ∀ M o τ, (∀ τ, MpO kint (σ ++ (.row false [fblks p] :: M :: τ)) (σ.length + 1) (plE (plD p) (prs 0 p))) → Q .normal env (σ ++ (.row false [fblks p] :: M :: .row false [.map (σ.length + 1)] :: o :: τ))) :
    GCall Try.prog F_prefix_each_1 [.yield (σ.length + 3), .fptr [fblks p]] (σ ++ [.row false [fblks p], .mp [] ([], 0), .row false [.map (σ.length + 1)], .loop (lgR env [11, 12] (rngA Try.f42 0) (rngB Try.f42 0))]) fun _ σ' => grange (σ.length + 3) env Q σ' := by
  refine p_each1_ok hp (fun n σ' => ∃ M τ, σ' = σ ++ (.row false [fblks p] :: M :: .row false [.map (σ.length + 1)] :: .loop (lgR env [11, 12] (rngA Try.f42 0) (rngB Try.f42 0)) :: τ) ∧ ∀ τ, MpO kint (σ ++ (.row false [fblks p] :: M :: τ)) (σ.length + 1) (plE (plD p) ((prs 0 p).take n)))
    (fun σ' => False) ?_ ?_ ?_ ?_ ?_
  · rintro n _ o ⟨M, τ, rfl, hM⟩
    exact ⟨M, τ ++ [o], by simp, hM⟩
  · refine ⟨_, [], rfl, fun τ => ?_⟩
    exact ⟨by simp [plE], ([], 0), ⟨by simp [plE], by simp, by simp⟩, by simp [kenc, plE]⟩
  · rintro n i v _ hn ⟨M, τ, rfl, hM⟩
    obtain ⟨b, _, hb, _⟩ := prs_mem (List.mem_of_getElem? hn)
    refine place_round hp (by simpa using hb) hlen h1 h3 hM (plE_place _ _ fun k u h => by simp [kget] at h) fun M' τ' hM' => .inl ⟨rfl, M', τ', rfl, fun τ1 => ?_⟩
    have := hM' τ1
    unfold plE at this ⊢
    rw [take_get hn, List.foldl_append]
    exact this
  · rintro _ ⟨M, τ, rfl, hM⟩
    have hM' : ∀ τ, MpO kint (σ ++ (.row false [fblks p] :: M :: τ)) (σ.length + 1) (plE (plD p) (prs 0 p)) := fun τ => by
      have := hM τ
      rw [List.take_of_length_le (by rw [prs_len]; omega)] at this
      exact this
    refine grange_normal (e0 := env) (ps := [11, 12]) (a := rngA Try.f42 0) (b := rngB Try.f42 0) (by simp) ?_
    rw [set_tail]
    exact kN _ _ _ hM'
  · rintro _ h
    exact h.elim
/-- The places of numbers: a map of the call's own. -/
theorem p_places_ok {p : List Blk} {σ : GS} {Post : DV → GS → Prop} (hp : lensB p < 2 ^ 40) (k : ∀ E σ', PlaceE p E → E = plE (plD p) (prs 0 p) → MpO kint σ' (σ.length + 1) E → Fr σ.length σ σ' → Post (.map (σ.length + 1)) σ') : GCall Try.prog F_prefix_places [fblks p] σ Post := by
  refine gc_prefix_places ?_
  simp [G_prefix_places, genv0, List.replicate]
  refine p_each_ok ?_
  simp
  refine rangeB_intro ?_
  simp
  refine place_walk hp (by simp) (by simp) (by simp) fun M o τ hM => ?_
  simp
  exact k _ _ (plE_final p) rfl (hM _) (Fr.rfl'.app _)
end Go.Gh
namespace Go.Gh
open Go.RowKit Go.Proofs
set_option linter.unusedVariables false
set_option linter.unusedSimpArgs false
set_option maxRecDepth 100000
end Go.Gh
namespace Go.Gh
open Go.RowKit Go.Proofs
set_option linter.unusedVariables false
set_option linter.unusedSimpArgs false
set_option maxRecDepth 100000
end Go.Gh
namespace Go.Gh
open Go.RowKit Go.Sort Go.Shelf Go.Proofs
set_option linter.unusedVariables false
set_option linter.unusedSimpArgs false
abbrev F_Sort : FuncId := 44
def sort_ren : Go.Shelf.Ren := ⟨fun | 189 => 44 | 125 => 70 | 257 => 69 | 128 => 92 | 129 => 93 | 294 => 83 | 295 => 84 | 296 => 85 | 297 => 86 | 298 => 87 | 299 => 88 | 216 => 89 | 300 => 90 | 301 => 91 | 328 => 99 | 329 => 100 | 330 => 101 | 331 => 102 | 332 => 103 | 215 => 80 | 343 => 106 | n => n, fun | 28 => 23 | 3 => 3 | 46 => 105 | 0 => 0 | 51 => 121 | 53 => 123 | 4 => 4 | 183 => 115 | 182 => 114 | 131 => 68 | 5 => 5 | 9 => 9 | 218 => 127 | 222 => 131 | 228 => 134 | 229 => 135 | n => n, fun | n => n⟩
theorem sort_lays : Go.Proofs.Lays.n189 Try.prog sort_ren := {
  mixed := by kernel_rfl
  f125 := Try.func70.trans (congrArg some (by kernel_rfl))
  f128 := Try.func92.trans (congrArg some (by kernel_rfl))
  f129 := Try.func93.trans (congrArg some (by kernel_rfl))
  f189 := Try.func44.trans (congrArg some (by kernel_rfl))
  f215 := Try.func80.trans (congrArg some (by kernel_rfl))
  f216 := Try.func89.trans (congrArg some (by kernel_rfl))
  f257 := Try.func69.trans (congrArg some (by kernel_rfl))
  f294 := Try.func83.trans (congrArg some (by kernel_rfl))
  f295 := Try.func84.trans (congrArg some (by kernel_rfl))
  f296 := Try.func85.trans (congrArg some (by kernel_rfl))
  f297 := Try.func86.trans (congrArg some (by kernel_rfl))
  f298 := Try.func87.trans (congrArg some (by kernel_rfl))
  f299 := Try.func88.trans (congrArg some (by kernel_rfl))
  f300 := Try.func90.trans (congrArg some (by kernel_rfl))
  f301 := Try.func91.trans (congrArg some (by kernel_rfl))
  f328 := Try.func99.trans (congrArg some (by kernel_rfl))
  f329 := Try.func100.trans (congrArg some (by kernel_rfl))
  f330 := Try.func101.trans (congrArg some (by kernel_rfl))
  f331 := Try.func102.trans (congrArg some (by kernel_rfl))
  f332 := Try.func103.trans (congrArg some (by kernel_rfl))
  f343 := Try.func106.trans (congrArg some (by kernel_rfl))
  t0 := Try.underlying0
  a0 := Try.isAgg0
  z0 := Try.sizeOf0
  v0 := Try.zeroValue0
  t3 := Try.underlying3
  a3 := Try.isAgg3
  z3 := Try.sizeOf3
  v3 := Try.zeroValue3
  t4 := Try.underlying4
  a4 := Try.isAgg4
  z4 := Try.sizeOf4
  v4 := Try.zeroValue4
  t5 := Try.underlying5
  a5 := Try.isAgg5
  z5 := Try.sizeOf5
  v5 := Try.zeroValue5
  t9 := Try.underlying9
  a9 := Try.isAgg9
  z9 := Try.sizeOf9
  v9 := Try.zeroValue9
  t28 := Try.underlying23
  a28 := Try.isAgg23
  z28 := Try.sizeOf23
  v28 := Try.zeroValue23
  t46 := Try.underlying105
  a46 := Try.isAgg105
  z46 := Try.sizeOf105
  v46 := Try.zeroValue105
  t51 := Try.underlying121
  a51 := Try.isAgg121
  z51 := Try.sizeOf121
  v51 := Try.zeroValue121
  t53 := Try.underlying123
  a53 := Try.isAgg123
  z53 := Try.sizeOf123
  v53 := Try.zeroValue123
  t131 := Try.underlying68
  a131 := Try.isAgg68
  z131 := Try.sizeOf68
  v131 := Try.zeroValue68
  t182 := Try.underlying114
  a182 := Try.isAgg114
  z182 := Try.sizeOf114
  v182 := Try.zeroValue114
  t183 := Try.underlying115
  a183 := Try.isAgg115
  z183 := Try.sizeOf115
  v183 := Try.zeroValue115
  t218 := Try.underlying127
  a218 := Try.isAgg127
  z218 := Try.sizeOf127
  v218 := Try.zeroValue127
  t222 := Try.underlying131
  a222 := Try.isAgg131
  z222 := Try.sizeOf131
  v222 := Try.zeroValue131
  t228 := Try.underlying134
  a228 := Try.isAgg134
  z228 := Try.sizeOf134
  v228 := Try.zeroValue134
  t229 := Try.underlying135
  a229 := Try.isAgg135
  z229 := Try.sizeOf135
  v229 := Try.zeroValue135 }
theorem sortC : SortC Try.prog F_Sort :=
  ⟨fun blk off cap zs w h1 h2 h3 => Any.slices_Sort_int sort_lays blk off cap zs w h1 h2 h3, fun p cap w => Any.slices_Sort_int_none sort_lays p cap w⟩
theorem sortX : ∃ fn, Try.prog.funcs[F_Sort]? = some fn ∧ (fn.name == "runtime.NumGoroutine") = false ∧ fn.body.isSome = true :=
  ⟨Try.f44, Try.func44, by decide, rfl⟩
end Go.Gh
namespace Go.Gh
open Go.RowKit Go.Proofs
set_option linter.unusedVariables false
set_option linter.unusedSimpArgs false
set_option maxRecDepth 100000
def sortZ (l : List Int) : List Int := l.mergeSort fun x y => decide (x ≤ y)
theorem lensB_take (p : List Blk) (k : Nat) : lensB (p.take k) ≤ lensB p := by
  have : lensB p = lensB (p.take k) + lensB (p.drop k) := by rw [← lensB_append, List.take_append_drop]
  omega
end Go.Gh
namespace Go.Gh
open Go.RowKit Go.Proofs
set_option linter.unusedVariables false
set_option linter.unusedSimpArgs false
set_option maxRecDepth 100000
theorem bs2_agg {x y : DV} {z : List DV} (hz : z.length = 2) : galloc (.bslice 2 z 1 [(0, 2)]) [.agg [x, y]] = some (.row false [x, y], fun id => .slice id 0 1 2 (some 1)) := ga_b1_agg rfl hz
theorem p_joined_ok {p : List Blk} {σ : GS} {Post : DV → GS → Prop} (hp : lensB p < 2 ^ 40) (k : ∀ s σ', Jn σ.length σ' s (joinB p) → Fr σ.length σ σ' → Post s σ') : GCall Try.prog F_prefix_joined [fblks p] σ Post := by
  have hlb := lensB_flat p
  refine gc_prefix_joined ?_
  simp [G_prefix_joined, genv0, List.replicate]
  refine gfor p.length (fun i e σ' => Fr σ.length σ σ' ∧ ∃ s, Jn σ.length σ' s (joinB (p.take i)) ∧ e = mkEnv 56 [(2, s), (6, fblks p), (7, .int .i64 p.length), (8, .int .i64 i)]) _ ?_ ⟨.rfl', .nils, by simpa [joinB] using Jn.nil, rfl⟩ ?_
  · simp [mkEnv, List.replicate]
  rintro i _ σ1 hi ⟨hF, s, hJ, rfl⟩
  simp [mkEnv, List.replicate]
  by_cases hlt : i < p.length
  rotate_left
  · have : i = p.length := by omega
    subst this
    rw [List.take_length] at hJ
    simp
    exact k _ _ hJ hF
  obtain ⟨b, hb⟩ := nth_lt hlt
  have hb' := nth_get hb
  have hpush := joinB_push hb'
  have es : IntKind.i64.wrap ((i : Int) + 1) = (i : Int) + 1 := by rw [wrap_small] <;> omega
  have hge := hF.len
  have hbm := lensB_mem (List.mem_of_getElem? hb')
  have hjl : lensB (joinB (p.take i)) ≤ lensB p := Nat.le_trans (joinB_lens _) (lensB_take p i)
  have hjn : (joinB (p.take i)).length ≤ lensB (joinB (p.take i)) := by unfold lensB; omega
  obtain ⟨out, hout⟩ : ∃ out, joinB (p.take i) = out := ⟨_, rfl⟩
  rw [hout] at hpush hJ hjl hjn
  by_cases h0 : b.2 = []
  · have hst : joinStep out b = out := by unfold joinStep; rw [if_pos h0]
    simp [hlt, hb, hJ.glen, h0, es]
    exact forK_go _ hlt (by simp [mkEnv, List.replicate]) ⟨hF.app _, s, by rw [hpush, hst]; exact hJ.fr (Fr.rfl'.app _), rfl⟩
  have hJ1 := hJ.fr (Fr.rfl'.app [.row false (eblk b)])
  obtain ⟨raws, hR⟩ := hJ1
  -- a block more
  have hnew : ∀ (K : DV → GS → Prop), (∀ s' σ', Jn σ.length σ' s' (out ++ [b]) → Fr σ.length σ σ' → K s' σ') → ∀ t σ2, Own σ.length 1 eint σ2 t b.2 → Fr (σ1.length + 1) (σ1 ++ [.row false (eblk b)]) σ2 → (∀ k, t.has k → σ1.length + 1 ≤ k) → ∃ s' σ3, gimp (.append 2 32) [s, .slice σ2.length 0 1 2 (some 1)] (σ2 ++ [.row false [.bool b.1, t]]) = some (s', σ3) ∧ K s' σ3 := by
    intro K hK t σ2 ht hF2 hth
    have hR2 : JnR σ.length σ2 s raws out := hR.fr (by simpa using hF2)
    have hle2 := hF2.len
    have hdom : ∀ k, s.has k → k < σ1.length + 1 := fun k hk => by have := hR.own.has_lt hk; simpa using this
    obtain ⟨s', σ3, q1, q2, q3, q4⟩ := hR2.push (e := b.1) ht (fun k hk hk' => by have := hdom k hk'; have := hth k hk; omega) (fun j r hr k hk hk' => by
      have hjd := get_dom hr
      obtain ⟨c, hc⟩ := get_lt (xs := out) (i := j) (by rw [← hR.len]; exact hjd)
      have := (hR.at_ j r c hr hc).2.1.has_lt hk
      have := hth k hk'
      simp at *; omega) (by omega) (by omega)
    exact ⟨s', σ3, q1, hK _ _ ⟨_, q2⟩ ((hF.app [.row false (eblk b)]).trans ((hF2.mono (by omega)).trans q3))⟩
  cases hm : out.length with
  | zero =>
    have hon : out = [] := List.length_eq_zero_iff.1 hm
    have hst : joinStep out b = out ++ [b] := by unfold joinStep; rw [if_neg h0, hon]; rfl
    simp [hlt, hb, hJ.glen, h0, hm, show IntKind.i64.wrap (-1) = -1 by decide]
    refine clone_frz (n := σ.length) (xs := b.2) (by omega) (by simp; omega) fun t σ2 hO hF2 hhas hcap => ?_
    have hrow2 : σ2[σ1.length]? = some (.row false (eblk b)) := by rw [hF2.get _ (by simp)]; simp
    obtain ⟨s', σ3, q1, q2⟩ := hnew (fun s' σ' => Jn σ.length σ' s' (out ++ [b]) ∧ Fr σ.length σ σ') (fun s' σ' h1 h2 => ⟨h1, h2⟩) t σ2 hO (by simpa using hF2) (by simpa using hhas)
    simp [fill_flat2, hO.flat, bs2_agg, q1, es]
    refine ⟨by rw [ld_at hrow2]; rfl, ?_⟩
    exact forK_go _ hlt (by simp [mkEnv, List.replicate]) ⟨q2.2, s', by rw [hpush, hst]; exact q2.1, rfl⟩
  | succ m =>
    obtain ⟨c, hc⟩ := get_lt (xs := out) (i := m) (by omega)
    obtain ⟨r, hr, r1, r2, r3⟩ := hR.get hc
    have ew : IntKind.i64.wrap (m : Int) = m := by rw [wrap_small] <;> omega
    obtain ⟨id, g1, g2, g3, g4⟩ := hR.own.get (fun _ => rfl) hr (k := .i64)
    have g40 := g4 0 (by omega)
    have g41 := g4 1 (by omega)
    simp at g40 g41
    by_cases hq : c.1 = b.1
    · have hst : joinStep out b = out.set m (c.1, c.2 ++ b.2) := by unfold joinStep; rw [if_neg h0, hm, Nat.add_sub_cancel, hc]; simp [hq]
      have hq2 : (r.1 == b.1) = true := by rw [r1]; simpa using hq
      have hcm := lensB_mem (List.mem_of_getElem? hc)
      obtain ⟨σ2, hσ2⟩ : ∃ σ2, σ1 ++ [GObj.row false (eblk b)] = σ2 := ⟨_, rfl⟩
      have hl2 : σ2.length = σ1.length + 1 := by rw [← hσ2]; simp
      have l41 : gload (.load 1 false) [.ptr σ1.length 1] σ2 = some (fints b.2) := by rw [← hσ2]; simp
      have l40 : gload (.load 1 false) [.ptr σ1.length 0] σ2 = some (.bool b.1) := by rw [← hσ2]; simp
      rw [hσ2] at hR r2 g3 g40 g41
      obtain ⟨t, σ3, q1, q2, q3, q4, q5, q6, q7⟩ := r2.append (by_ := 8) (x := fints b.2) (ys := b.2) (fun _ => rfl) (by simpa [flatMap_flatten] using gread_fsl (σ := σ2) (sz := 1) (es := b.2.map eint)) (by simp [glen]) (by simp) (by omega) (by omega) (by decide)
      obtain ⟨id', σ4, z1, z2, z3, z4, z5⟩ := hR.grow hr hc q2 q5 q6
      rw [g2] at z1
      cases z1
      simp [hlt, hb, hJ.glen, h0, hm, ew, g2, g40, hq2, hσ2, l41, l40, g41, q1, z2, es]
      have hle3 := q3.len
      exact forK_go _ hlt (by simp [mkEnv, List.replicate]) ⟨((hF.app [GObj.row false (eblk b)]).trans (by rw [hσ2]; exact q3)).trans (z4 (by omega)), s, by rw [hpush, hst]; exact ⟨_, z3⟩, rfl⟩
    · have hst : joinStep out b = out ++ [b] := by unfold joinStep; rw [if_neg h0, hm, Nat.add_sub_cancel, hc]; simp [hq]
      have hq2 : (r.1 == b.1) = false := by rw [r1]; simpa using hq
      simp [hlt, hb, hJ.glen, h0, hm, ew, g2, g40, hq2]
      refine clone_frz (n := σ.length) (xs := b.2) (by omega) (by simp; omega) fun t σ2 hO hF2 hhas hcap => ?_
      have hrow2 : σ2[σ1.length]? = some (.row false (eblk b)) := by rw [hF2.get _ (by simp)]; simp
      obtain ⟨s', σ3, q1, q2⟩ := hnew (fun s' σ' => Jn σ.length σ' s' (out ++ [b]) ∧ Fr σ.length σ σ') (fun s' σ' h1 h2 => ⟨h1, h2⟩) t σ2 hO (by simpa using hF2) (by simpa using hhas)
      simp [fill_flat2, hO.flat, bs2_agg, q1, es]
      refine ⟨by rw [ld_at hrow2]; rfl, ?_⟩
      exact forK_go _ hlt (by simp [mkEnv, List.replicate]) ⟨q2.2, s', by rw [hpush, hst]; exact q2.1, rfl⟩
end Go.Gh
namespace Go.Gh
open Go.RowKit Go.Proofs
set_option linter.unusedVariables false
set_option linter.unusedSimpArgs false
set_option maxRecDepth 100000
/-- What Join returns. -/
def joinP (p : List Blk) : List Blk × Int := if singleS [] (flatB p) = true then (if (flatB p).length ≤ 1024 then (joinB p, 0) else ([], 3)) else ([], 2)
theorem p_Join_ok {p : List Blk} {σ : GS} {Post : DV → GS → Prop} (hp : lensB p < 2 ^ 40) (k : ∀ s σ', Jn σ.length σ' s (joinP p).1 → Fr σ.length σ σ' → Post (.tuple [s, .int .i64 (joinP p).2]) σ') : GCall Try.prog F_prefix_Join [fblks p] σ Post := by
  refine gc_prefix_Join ?_
  simp [G_prefix_Join, genv0, List.replicate]
  refine p_count_ok hp ?_
  cases hs : singleS [] (flatB p) with
  | false =>
    simp
    have := k .nils σ (by simpa [joinP, hs] using Jn.nil) .rfl'
    simpa [joinP, hs] using this
  | true =>
    by_cases c : (flatB p).length ≤ 1024
    · have c' : ¬ ((1024 : Int) < (flatB p).length) := by omega
      simp [c']
      refine p_joined_ok hp fun s σ' hJ hF => ?_
      simp
      have := k s σ' (by simpa [joinP, hs, c] using hJ) hF
      simpa [joinP, hs, c] using this
    · have c' : ((1024 : Int) < (flatB p).length) := by omega
      simp [c']
      have := k .nils σ (by simpa [joinP, hs, c] using Jn.nil) .rfl'
      simpa [joinP, hs, c] using this
theorem r_Same_ok {a b : List Blk} {σ : GS} {Post : DV → GS → Prop} (ha : lensB a < 2 ^ 40) (h : Post (.bool (decide (a = b))) σ) : GCall Try.prog F_skolemref03_Same [fblks a, fblks b] σ Post := by
  have hla : a.length ≤ lensB a := by unfold lensB; omega
  refine gc_skolemref03_Same ?_
  by_cases hlen : a.length = b.length
  rotate_left
  · have hne : a ≠ b := fun e => hlen (by rw [e])
    have hlen' : ¬ ((a.length : Int) = b.length) := by omega
    simp [G_skolemref03_Same, genv0, List.replicate, hlen']
    simpa [hne] using h
  simp [G_skolemref03_Same, genv0, List.replicate, hlen]
  refine gfor a.length (fun i e σ' => σ' = σ ∧ (a = b ↔ a.drop i = b.drop i) ∧ e = mkEnv 42 [(0, fblks a), (1, fblks b), (5, .int .i64 i)]) _ ?_ ⟨rfl, by simp, rfl⟩ ?_
  · simp [mkEnv, List.replicate]
  rintro i _ σ hi ⟨rfl, hI, rfl⟩
  simp [mkEnv, List.replicate]
  by_cases hlt : i < a.length
  · obtain ⟨x, hx⟩ := nth_lt hlt
    obtain ⟨y, hy⟩ := nth_lt (l := b) (i := i) (by omega)
    have hx' := nth_get hx
    have hxl := lensB_mem (List.mem_of_getElem? hx')
    rw [drop_get hx, drop_get hy, List.cons.injEq] at hI
    have es : IntKind.i64.wrap ((i : Int) + 1) = (i : Int) + 1 := by rw [wrap_small] <;> omega
    obtain ⟨x1, x2⟩ := x
    obtain ⟨y1, y2⟩ := y
    by_cases e1 : x1 = y1
    · simp [hlt, hx, hy, e1]
      refine r_Ints_ok (by simp at hxl; omega) ?_
      by_cases c : x2 = y2
      · simp [c, es]
        exact forK_go _ hlt (by simp [mkEnv, List.replicate]) ⟨rfl, by rw [hI]; simp [c, e1], rfl⟩
      · have hne : a ≠ b := fun e => by have := (hI.1 e).1; simp [c] at this
        simp [c]
        simpa [hne] using h
    · have hne : a ≠ b := fun e => by have := (hI.1 e).1; simp [e1] at this
      have e2 : (x1 != y1) = true := by simpa using e1
      simp [hlt, hx, hy, e2]
      simpa [hne] using h
  · have : i = a.length := by omega
    subst this
    have he : a = b := hI.2 (by rw [List.drop_length, hlen, List.drop_length])
    simp
    simpa [he] using h
end Go.Gh
namespace Go.Gh
open Go.Proofs
abbrev F_prefix_cnf : Nat := 40
abbrev F_skolemref03_Cnf : Nat := 48
abbrev F_skolemref03_Normal : Nat := 73
noncomputable abbrev G_skolemref03_Cnf : GFun := ⟨31, [(.tmp 2)], (.seq (.region [⟨0, ⟨(some 2), none, (.pure .id), [(.const (.bool false))]⟩, []⟩]) (.seq (.region [⟨0, ⟨(some 3), none, (.pure .id), [(.const (.int .i64 0))]⟩, []⟩]) (.seq (.seq (.region [⟨0, ⟨(some 4), none, (.pure .id), [(.const (.int .i64 0))]⟩, []⟩]) (.block 0 (.loop (.seq (.seq (.region [⟨0, ⟨(some 5), none, (.pure .id), [(.tmp 4)]⟩, []⟩, ⟨0, ⟨(some 6), none, (.pure .id), [(.tmp 0)]⟩, []⟩, ⟨0, ⟨(some 7), none, (.pure .len), [(.tmp 6)]⟩, []⟩, ⟨0, ⟨(some 8), none, (.pure (.bin .lss .none)), [(.tmp 5), (.tmp 7)]⟩, []⟩]) (.cond (.tmp 8) .skip (.exit 0))) (.seq (.block 1 (.seq (.region [⟨0, ⟨(some 11), none, (.pure .id), [(.tmp 3)]⟩, []⟩, ⟨0, ⟨(some 12), none, (.pure .id), [(.tmp 0)]⟩, []⟩, ⟨0, ⟨(some 13), none, (.pure .id), [(.tmp 4)]⟩, []⟩, ⟨0, ⟨(some 14), none, (.pure (.iaddr 1)), [(.tmp 12), (.tmp 13)]⟩, []⟩, ⟨0, ⟨(some 15), none, (.load (.load 1 false)), [(.tmp 14)]⟩, []⟩, ⟨0, ⟨(some 16), none, (.pure .len), [(.tmp 15)]⟩, []⟩, ⟨0, ⟨(some 17), none, (.pure (.bin .add .none)), [(.tmp 11), (.tmp 16)]⟩, []⟩, ⟨0, ⟨(some 3), none, (.pure .id), [(.tmp 17)]⟩, []⟩]) (.seq (.region [⟨0, ⟨(some 18), none, (.pure .id), [(.tmp 0)]⟩, []⟩, ⟨0, ⟨(some 19), none, (.pure .id), [(.tmp 4)]⟩, []⟩, ⟨0, ⟨(some 20), none, (.pure (.iaddr 1)), [(.tmp 18), (.tmp 19)]⟩, []⟩, ⟨0, ⟨(some 21), none, (.load (.load 1 false)), [(.tmp 20)]⟩, []⟩, ⟨0, ⟨(some 22), none, (.call F_skolemref03_Normal), [(.tmp 21)]⟩, []⟩, ⟨0, ⟨(some 23), none, (.pure (.un .not)), [(.tmp 22)]⟩, []⟩]) (.cond (.tmp 23) (.seq (.region [⟨0, ⟨(some 2), none, (.pure .id), [(.const (.bool false))]⟩, []⟩]) .ret) .skip)))) (.region [⟨0, ⟨(some 9), none, (.pure .id), [(.tmp 4)]⟩, []⟩, ⟨0, ⟨(some 10), none, (.pure (.bin .add .none)), [(.tmp 9), (.const (.int .i64 1))]⟩, []⟩, ⟨0, ⟨(some 4), none, (.pure .id), [(.tmp 10)]⟩, []⟩])))))) (.seq (.region [⟨0, ⟨(some 24), none, (.pure .id), [(.tmp 0)]⟩, []⟩, ⟨0, ⟨(some 25), none, (.pure .len), [(.tmp 24)]⟩, []⟩, ⟨0, ⟨(some 26), none, (.pure (.bin .leq .none)), [(.tmp 25), (.const (.int .i64 20000))]⟩, []⟩, ⟨0, ⟨(some 27), none, (.pure .id), [(.tmp 26)]⟩, []⟩, ⟨0, ⟨(some 28), (some (27, true)), (.pure .id), [(.tmp 3)]⟩, []⟩, ⟨0, ⟨(some 29), (some (27, true)), (.pure (.bin .leq .none)), [(.tmp 28), (.const (.int .i64 200000))]⟩, []⟩, ⟨0, ⟨(some 30), none, (.pure .pick), [(.tmp 27), (.tmp 29), (.const (.bool false))]⟩, []⟩, ⟨0, ⟨(some 2), none, (.pure .id), [(.tmp 30)]⟩, []⟩]) .ret))))⟩
theorem c_skolemref03_Cnf : compF Try.prog Try.f48 = some G_skolemref03_Cnf := by kernel_rfl
theorem gc_skolemref03_Cnf {args : List DV} {σ : GS} {Post : DV → GS → Prop} (h : @exB Try.prog ⟨G_skolemref03_Cnf.body⟩ (genv0 args G_skolemref03_Cnf.ntmps) σ ⟨@gretB G_skolemref03_Cnf.results ⟨Post⟩⟩) : GCall Try.prog F_skolemref03_Cnf args σ Post := gcall_ofB seatfollows Try.func48 (by kernel_rfl) c_skolemref03_Cnf h
noncomputable abbrev G_skolemref03_Normal : GFun := ⟨47, [(.tmp 2)], (.seq (.region [⟨0, ⟨(some 2), none, (.pure .id), [(.const (.bool false))]⟩, []⟩]) (.seq (.seq (.region [⟨0, ⟨(some 3), none, (.pure .id), [(.const (.int .i64 0))]⟩, []⟩]) (.block 0 (.loop (.seq (.seq (.region [⟨0, ⟨(some 4), none, (.pure .id), [(.tmp 3)]⟩, []⟩, ⟨0, ⟨(some 5), none, (.pure .id), [(.tmp 0)]⟩, []⟩, ⟨0, ⟨(some 6), none, (.pure .len), [(.tmp 5)]⟩, []⟩, ⟨0, ⟨(some 7), none, (.pure (.bin .lss .none)), [(.tmp 4), (.tmp 6)]⟩, []⟩]) (.cond (.tmp 7) .skip (.exit 0))) (.seq (.block 1 (.seq (.region [⟨0, ⟨(some 10), none, (.pure .id), [(.tmp 0)]⟩, []⟩, ⟨1, ⟨(some 11), none, (.pure .id), [(.tmp 3)]⟩, []⟩, ⟨2, ⟨(some 12), none, (.pure (.iaddr 1)), [(.tmp 10), (.tmp 11)]⟩, []⟩, ⟨3, ⟨(some 13), none, (.load (.load 1 false)), [(.tmp 12)]⟩, []⟩, ⟨4, ⟨(some 14), none, (.pure (.bin .eql .none)), [(.tmp 13), (.const (.int .i64 0))]⟩, []⟩, ⟨5, ⟨(some 15), none, (.pure .id), [(.tmp 14)]⟩, []⟩, ⟨6, ⟨(some 16), (some (15, false)), (.pure .id), [(.tmp 0)]⟩, []⟩, ⟨7, ⟨(some 17), (some (15, false)), (.pure .id), [(.tmp 3)]⟩, []⟩, ⟨8, ⟨(some 18), (some (15, false)), (.pure (.iaddr 1)), [(.tmp 16), (.tmp 17)]⟩, []⟩, ⟨9, ⟨(some 19), (some (15, false)), (.load (.load 1 false)), [(.tmp 18)]⟩, []⟩, ⟨10, ⟨(some 20), (some (15, false)), (.pure (.bin .lss .none)), [(.tmp 19), (.const (.int .i64 (-65536)))]⟩, []⟩, ⟨11, ⟨(some 21), none, (.pure .pick), [(.tmp 15), (.const (.bool true)), (.tmp 20)]⟩, []⟩, ⟨12, ⟨(some 22), none, (.pure .id), [(.tmp 21)]⟩, []⟩, ⟨13, ⟨(some 23), (some (22, false)), (.pure .id), [(.tmp 0)]⟩, []⟩, ⟨14, ⟨(some 24), (some (22, false)), (.pure .id), [(.tmp 3)]⟩, []⟩, ⟨15, ⟨(some 25), (some (22, false)), (.pure (.iaddr 1)), [(.tmp 23), (.tmp 24)]⟩, []⟩, ⟨16, ⟨(some 26), (some (22, false)), (.load (.load 1 false)), [(.tmp 25)]⟩, []⟩, ⟨17, ⟨(some 27), (some (22, false)), (.pure (.bin .gtr .none)), [(.tmp 26), (.const (.int .i64 65536))]⟩, []⟩, ⟨18, ⟨(some 28), none, (.pure .pick), [(.tmp 22), (.const (.bool true)), (.tmp 27)]⟩, []⟩, ⟨19, ⟨(some 29), none, (.pure .id), [(.tmp 28)]⟩, []⟩, ⟨20, ⟨(some 30), (some (29, false)), (.pure .id), [(.tmp 3)]⟩, []⟩, ⟨21, ⟨(some 31), (some (29, false)), (.pure (.bin .gtr .none)), [(.tmp 30), (.const (.int .i64 0))]⟩, []⟩, ⟨22, ⟨(some 32), (some (29, false)), (.pure .id), [(.tmp 31)]⟩, []⟩, ⟨23, ⟨(some 33), (some (32, true)), (.pure .id), [(.tmp 0)]⟩, []⟩, ⟨24, ⟨(some 34), (some (32, true)), (.pure .id), [(.tmp 3)]⟩, []⟩, ⟨25, ⟨(some 35), (some (32, true)), (.pure (.bin .sub .none)), [(.tmp 34), (.const (.int .i64 1))]⟩, []⟩, ⟨26, ⟨(some 36), (some (32, true)), (.pure (.iaddr 1)), [(.tmp 33), (.tmp 35)]⟩, []⟩, ⟨27, ⟨(some 37), (some (32, true)), (.load (.load 1 false)), [(.tmp 36)]⟩, []⟩, ⟨29, ⟨(some 39), (some (32, true)), (.pure .id), [(.tmp 0)]⟩, []⟩, ⟨30, ⟨(some 40), (some (32, true)), (.pure .id), [(.tmp 3)]⟩, []⟩, ⟨31, ⟨(some 41), (some (32, true)), (.pure (.iaddr 1)), [(.tmp 39), (.tmp 40)]⟩, []⟩, ⟨32, ⟨(some 42), (some (32, true)), (.load (.load 1 false)), [(.tmp 41)]⟩, []⟩, ⟨28, ⟨(some 38), (some (32, true)), (.call F_skolemref03_Abs), [(.tmp 37)]⟩, [⟨(some 42), (some (32, true)), (.load (.load 1 false)), [(.tmp 41)]⟩]⟩, ⟨33, ⟨(some 43), (some (32, true)), (.call F_skolemref03_Abs), [(.tmp 42)]⟩, []⟩, ⟨34, ⟨(some 44), (some (32, true)), (.pure (.bin .geq .none)), [(.tmp 38), (.tmp 43)]⟩, []⟩, ⟨35, ⟨(some 45), (some (29, false)), (.pure .pick), [(.tmp 32), (.tmp 44), (.const (.bool false))]⟩, []⟩, ⟨36, ⟨(some 46), none, (.pure .pick), [(.tmp 29), (.const (.bool true)), (.tmp 45)]⟩, []⟩]) (.cond (.tmp 46) (.seq (.region [⟨0, ⟨(some 2), none, (.pure .id), [(.const (.bool false))]⟩, []⟩]) .ret) .skip))) (.region [⟨0, ⟨(some 8), none, (.pure .id), [(.tmp 3)]⟩, []⟩, ⟨0, ⟨(some 9), none, (.pure (.bin .add .none)), [(.tmp 8), (.const (.int .i64 1))]⟩, []⟩, ⟨0, ⟨(some 3), none, (.pure .id), [(.tmp 9)]⟩, []⟩])))))) (.seq (.region [⟨0, ⟨(some 2), none, (.pure .id), [(.const (.bool true))]⟩, []⟩]) .ret)))⟩
theorem c_skolemref03_Normal : compF Try.prog Try.f73 = some G_skolemref03_Normal := by kernel_rfl
theorem gc_skolemref03_Normal {args : List DV} {σ : GS} {Post : DV → GS → Prop} (h : @exB Try.prog ⟨G_skolemref03_Normal.body⟩ (genv0 args G_skolemref03_Normal.ntmps) σ ⟨@gretB G_skolemref03_Normal.results ⟨Post⟩⟩) : GCall Try.prog F_skolemref03_Normal args σ Post := gcall_ofB seatfollows Try.func73 (by kernel_rfl) c_skolemref03_Normal h
noncomputable abbrev G_prefix_cnf : GFun := ⟨59, [(.tmp 4)], (.seq (.region [⟨0, ⟨(some 4), none, (.pure .id), [(.const (.bool false))]⟩, []⟩]) (.seq (.seq (.region [⟨0, ⟨(some 11), none, (.pure .id), [(.tmp 0)]⟩, []⟩, ⟨0, ⟨(some 12), none, (.pure .len), [(.tmp 11)]⟩, []⟩, ⟨0, ⟨(some 13), none, (.pure (.bin .gtr .none)), [(.tmp 12), (.const (.int .i64 20000))]⟩, []⟩]) (.cond (.tmp 13) (.seq (.region [⟨0, ⟨(some 4), none, (.pure .id), [(.const (.bool false))]⟩, []⟩]) .ret) .skip)) (.seq (.region [⟨0, ⟨(some 5), none, (.pure .id), [(.const (.int .i64 0))]⟩, []⟩]) (.seq (.seq (.region [⟨0, ⟨(some 14), none, (.pure .id), [(.tmp 0)]⟩, []⟩, ⟨0, ⟨(some 15), none, (.pure .len), [(.tmp 14)]⟩, []⟩, ⟨0, ⟨(some 16), none, (.pure .id), [(.const (.int .i64 0))]⟩, []⟩]) (.block 0 (.loop (.seq (.region [⟨0, ⟨(some 17), none, (.pure (.bin .lss .none)), [(.tmp 16), (.tmp 15)]⟩, []⟩]) (.seq (.cond (.tmp 17) .skip (.exit 0)) (.seq (.block 1 (.seq (.region [⟨0, ⟨(some 18), none, (.pure (.iaddr 1)), [(.tmp 14), (.tmp 16)]⟩, []⟩, ⟨0, ⟨(some 19), none, (.load (.load 1 false)), [(.tmp 18)]⟩, []⟩, ⟨0, ⟨(some 7), none, (.pure .id), [(.tmp 19)]⟩, []⟩]) (.seq (.region [⟨0, ⟨(some 8), none, (.pure .id), [(.const (.int .i64 0))]⟩, []⟩]) (.seq (.seq (.region [⟨0, ⟨(some 20), none, (.pure .id), [(.tmp 7)]⟩, []⟩, ⟨0, ⟨(some 21), none, (.pure .len), [(.tmp 20)]⟩, []⟩, ⟨0, ⟨(some 22), none, (.pure .id), [(.const (.int .i64 0))]⟩, []⟩]) (.block 2 (.loop (.seq (.region [⟨0, ⟨(some 23), none, (.pure (.bin .lss .none)), [(.tmp 22), (.tmp 21)]⟩, []⟩]) (.seq (.cond (.tmp 23) .skip (.exit 2)) (.seq (.block 3 (.seq (.region [⟨0, ⟨(some 24), none, (.pure (.iaddr 1)), [(.tmp 20), (.tmp 22)]⟩, []⟩, ⟨0, ⟨(some 25), none, (.load (.load 1 false)), [(.tmp 24)]⟩, []⟩, ⟨0, ⟨(some 10), none, (.pure .id), [(.tmp 25)]⟩, []⟩]) (.seq (.seq (.region [⟨0, ⟨(some 26), none, (.pure .id), [(.tmp 10)]⟩, []⟩, ⟨0, ⟨(some 27), none, (.pure (.bin .eql .none)), [(.tmp 26), (.const (.int .i64 0))]⟩, []⟩, ⟨0, ⟨(some 28), none, (.pure .id), [(.tmp 27)]⟩, []⟩, ⟨0, ⟨(some 29), (some (28, false)), (.pure .id), [(.tmp 10)]⟩, []⟩, ⟨0, ⟨(some 30), (some (28, false)), (.pure (.bin .lss .none)), [(.tmp 29), (.const (.int .i64 (-65536)))]⟩, []⟩, ⟨0, ⟨(some 31), none, (.pure .pick), [(.tmp 28), (.const (.bool true)), (.tmp 30)]⟩, []⟩, ⟨0, ⟨(some 32), none, (.pure .id), [(.tmp 31)]⟩, []⟩, ⟨0, ⟨(some 33), (some (32, false)), (.pure .id), [(.tmp 10)]⟩, []⟩, ⟨0, ⟨(some 34), (some (32, false)), (.pure (.bin .gtr .none)), [(.tmp 33), (.const (.int .i64 65536))]⟩, []⟩, ⟨0, ⟨(some 35), none, (.pure .pick), [(.tmp 32), (.const (.bool true)), (.tmp 34)]⟩, []⟩, ⟨0, ⟨(some 36), none, (.pure .id), [(.tmp 35)]⟩, []⟩, ⟨0, ⟨(some 37), (some (36, false)), (.pure .id), [(.tmp 10)]⟩, []⟩, ⟨0, ⟨(some 38), (some (36, false)), (.call F_prefix_abs), [(.tmp 37)]⟩, []⟩, ⟨0, ⟨(some 39), (some (36, false)), (.pure .id), [(.tmp 8)]⟩, []⟩, ⟨0, ⟨(some 40), (some (36, false)), (.pure (.bin .leq .none)), [(.tmp 38), (.tmp 39)]⟩, []⟩, ⟨0, ⟨(some 41), none, (.pure .pick), [(.tmp 36), (.const (.bool true)), (.tmp 40)]⟩, []⟩, ⟨0, ⟨(some 42), none, (.pure .id), [(.tmp 41)]⟩, []⟩, ⟨0, ⟨(some 43), (some (42, false)), (.pure .id), [(.tmp 1)]⟩, []⟩, ⟨0, ⟨(some 44), (some (42, false)), (.pure .id), [(.tmp 10)]⟩, []⟩, ⟨0, ⟨(some 45), (some (42, false)), (.call F_prefix_abs), [(.tmp 44)]⟩, []⟩, ⟨0, ⟨(some 46), (some (42, false)), .callv, [(.tmp 43), (.tmp 45)]⟩, []⟩, ⟨0, ⟨(some 47), (some (42, false)), (.pure (.un .not)), [(.tmp 46)]⟩, []⟩, ⟨0, ⟨(some 48), none, (.pure .pick), [(.tmp 42), (.const (.bool true)), (.tmp 47)]⟩, []⟩]) (.cond (.tmp 48) (.seq (.region [⟨0, ⟨(some 4), none, (.pure .id), [(.const (.bool false))]⟩, []⟩]) .ret) .skip)) (.region [⟨0, ⟨(some 49), none, (.pure .id), [(.tmp 10)]⟩, []⟩, ⟨0, ⟨(some 50), none, (.call F_prefix_abs), [(.tmp 49)]⟩, []⟩, ⟨0, ⟨(some 8), none, (.pure .id), [(.tmp 50)]⟩, []⟩])))) (.region [⟨0, ⟨(some 51), none, (.pure (.bin .add .none)), [(.tmp 22), (.const (.int .i64 1))]⟩, []⟩, ⟨0, ⟨(some 22), none, (.pure .id), [(.tmp 51)]⟩, []⟩]))))))) (.region [⟨0, ⟨(some 52), none, (.pure .id), [(.tmp 5)]⟩, []⟩, ⟨0, ⟨(some 53), none, (.pure .id), [(.tmp 7)]⟩, []⟩, ⟨0, ⟨(some 54), none, (.pure .len), [(.tmp 53)]⟩, []⟩, ⟨0, ⟨(some 55), none, (.pure (.bin .add .none)), [(.tmp 52), (.tmp 54)]⟩, []⟩, ⟨0, ⟨(some 5), none, (.pure .id), [(.tmp 55)]⟩, []⟩]))))) (.region [⟨0, ⟨(some 56), none, (.pure (.bin .add .none)), [(.tmp 16), (.const (.int .i64 1))]⟩, []⟩, ⟨0, ⟨(some 16), none, (.pure .id), [(.tmp 56)]⟩, []⟩]))))))) (.seq (.region [⟨0, ⟨(some 57), none, (.pure .id), [(.tmp 5)]⟩, []⟩, ⟨0, ⟨(some 58), none, (.pure (.bin .leq .none)), [(.tmp 57), (.const (.int .i64 200000))]⟩, []⟩, ⟨0, ⟨(some 4), none, (.pure .id), [(.tmp 58)]⟩, []⟩]) .ret)))))⟩
theorem c_prefix_cnf : compF Try.prog Try.f40 = some G_prefix_cnf := by kernel_rfl
theorem gc_prefix_cnf {args : List DV} {σ : GS} {Post : DV → GS → Prop} (h : @exB Try.prog ⟨G_prefix_cnf.body⟩ (genv0 args G_prefix_cnf.ntmps) σ ⟨@gretB G_prefix_cnf.results ⟨Post⟩⟩) : GCall Try.prog F_prefix_cnf args σ Post := gcall_ofB seatfollows Try.func40 (by kernel_rfl) c_prefix_cnf h
end Go.Gh
namespace Go.Gh
open Go.Proofs
abbrev F_skolemlaw03_PrefixMakes : Nat := 3
abbrev F_skolemref03_Join : Nat := 11
abbrev F_prefix_Less : Nat := 12
abbrev F_skolemref03_Less : Nat := 13
abbrev F_prefix_Close : Nat := 14
abbrev F_skolemref03_Close : Nat := 15
abbrev F_skolemref03_SameQbf : Nat := 17
abbrev F_skolemref03_Joined : Nat := 36
abbrev F_prefix_Less_1 : Nat := 39
abbrev F_prefix_Close_1 : Nat := 41
abbrev F_slices_Clone_api_Block_api_Block : Nat := 46
abbrev F_prefix_copied : Nat := 47
abbrev F_skolemref03_Put : Nat := 49
noncomputable abbrev G_skolemlaw03_PrefixMakes : GFun := ⟨121, [(.tmp 6)], (.seq (.region [⟨0, ⟨(some 5), none, (.new .box), [(.tmp 2)]⟩, []⟩, ⟨0, ⟨(some 6), none, (.pure .id), [(.const (.bool false))]⟩, []⟩]) (.seq (.seq (.region [⟨0, ⟨(some 22), none, (.pure .id), [(.tmp 0)]⟩, []⟩, ⟨0, ⟨(some 23), none, (.call F_skolemlaw03_wide), [(.tmp 22), (.const .nils), (.const (.int .i64 1600))]⟩, []⟩, ⟨0, ⟨(some 24), none, (.pure .id), [(.tmp 23)]⟩, []⟩, ⟨0, ⟨(some 25), (some (24, false)), (.pure (.faddr 0)), [(.tmp 5)]⟩, []⟩, ⟨0, ⟨(some 26), (some (24, false)), (.load (.load 1 false)), [(.tmp 25)]⟩, []⟩, ⟨0, ⟨(some 27), (some (24, false)), (.pure (.faddr 1)), [(.tmp 5)]⟩, []⟩, ⟨0, ⟨(some 28), (some (24, false)), (.load (.load 1 false)), [(.tmp 27)]⟩, []⟩, ⟨0, ⟨(some 29), (some (24, false)), (.call F_skolemlaw03_wide), [(.tmp 26), (.tmp 28), (.const (.int .i64 1600))]⟩, []⟩, ⟨0, ⟨(some 30), none, (.pure .pick), [(.tmp 24), (.const (.bool true)), (.tmp 29)]⟩, []⟩, ⟨0, ⟨(some 31), none, (.pure .id), [(.tmp 30)]⟩, []⟩, ⟨0, ⟨(some 32), (some (31, false)), (.pure .id), [(.tmp 1)]⟩, []⟩, ⟨0, ⟨(some 33), (some (31, false)), (.pure .len), [(.tmp 32)]⟩, []⟩, ⟨0, ⟨(some 34), (some (31, false)), (.pure (.bin .gtr .none)), [(.tmp 33), (.const (.int .i64 1600))]⟩, []⟩, ⟨0, ⟨(some 35), none, (.pure .pick), [(.tmp 31), (.const (.bool true)), (.tmp 34)]⟩, []⟩]) (.cond (.tmp 35) (.seq (.region [⟨0, ⟨(some 36), none, (.call F_skolemlaw03_head), []⟩, []⟩, ⟨0, ⟨(some 6), none, (.pure .id), [(.tmp 36)]⟩, []⟩]) .ret) .skip)) (.seq (.region [⟨0, ⟨(some 37), none, (.pure .id), [(.tmp 0)]⟩, []⟩, ⟨0, ⟨(some 38), none, (.call F_skolemref03_Flat), [(.tmp 37)]⟩, []⟩, ⟨0, ⟨(some 7), none, (.pure .id), [(.tmp 38)]⟩, []⟩]) (.seq (.region [⟨0, ⟨(some 40), none, (.pure .id), [(.tmp 0)]⟩, []⟩, ⟨0, ⟨(some 41), none, (.call F_prefix_Join), [(.tmp 40)]⟩, []⟩, ⟨0, ⟨(some 39), none, (.pure .id), [(.tmp 41)]⟩, []⟩, ⟨0, ⟨(some 42), none, (.pure (.extract 0)), [(.tmp 39)]⟩, []⟩, ⟨0, ⟨(some 43), none, (.pure (.extract 1)), [(.tmp 39)]⟩, []⟩, ⟨0, ⟨(some 8), none, (.pure .id), [(.tmp 42)]⟩, []⟩, ⟨0, ⟨(some 9), none, (.pure .id), [(.tmp 43)]⟩, []⟩]) (.seq (.region [⟨0, ⟨(some 45), none, (.pure .id), [(.tmp 0)]⟩, []⟩, ⟨0, ⟨(some 46), none, (.call F_skolemref03_Join), [(.tmp 45)]⟩, []⟩, ⟨0, ⟨(some 44), none, (.pure .id), [(.tmp 46)]⟩, []⟩, ⟨0, ⟨(some 47), none, (.pure (.extract 0)), [(.tmp 44)]⟩, []⟩, ⟨0, ⟨(some 48), none, (.pure (.extract 1)), [(.tmp 44)]⟩, []⟩, ⟨0, ⟨(some 10), none, (.pure .id), [(.tmp 47)]⟩, []⟩, ⟨0, ⟨(some 11), none, (.pure .id), [(.tmp 48)]⟩, []⟩]) (.seq (.region [⟨0, ⟨(some 50), none, (.pure .id), [(.tmp 0)]⟩, []⟩, ⟨0, ⟨(some 51), none, (.pure .id), [(.tmp 1)]⟩, []⟩, ⟨0, ⟨(some 52), none, (.call F_prefix_Less), [(.tmp 50), (.tmp 51)]⟩, []⟩, ⟨0, ⟨(some 49), none, (.pure .id), [(.tmp 52)]⟩, []⟩, ⟨0, ⟨(some 53), none, (.pure (.extract 0)), [(.tmp 49)]⟩, []⟩, ⟨0, ⟨(some 54), none, (.pure (.extract 1)), [(.tmp 49)]⟩, []⟩, ⟨0, ⟨(some 12), none, (.pure .id), [(.tmp 53)]⟩, []⟩, ⟨0, ⟨(some 13), none, (.pure .id), [(.tmp 54)]⟩, []⟩]) (.seq (.region [⟨0, ⟨(some 56), none, (.pure .id), [(.tmp 0)]⟩, []⟩, ⟨0, ⟨(some 57), none, (.pure .id), [(.tmp 1)]⟩, []⟩, ⟨0, ⟨(some 58), none, (.call F_skolemref03_Less), [(.tmp 56), (.tmp 57)]⟩, []⟩, ⟨0, ⟨(some 55), none, (.pure .id), [(.tmp 58)]⟩, []⟩, ⟨0, ⟨(some 59), none, (.pure (.extract 0)), [(.tmp 55)]⟩, []⟩, ⟨0, ⟨(some 60), none, (.pure (.extract 1)), [(.tmp 55)]⟩, []⟩, ⟨0, ⟨(some 14), none, (.pure .id), [(.tmp 59)]⟩, []⟩, ⟨0, ⟨(some 15), none, (.pure .id), [(.tmp 60)]⟩, []⟩]) (.seq (.region [⟨0, ⟨(some 62), none, (.load (.load 2 true)), [(.tmp 5)]⟩, []⟩, ⟨0, ⟨(some 63), none, (.call F_prefix_Close), [(.tmp 62)]⟩, []⟩, ⟨0, ⟨(some 61), none, (.pure .id), [(.tmp 63)]⟩, []⟩, ⟨0, ⟨(some 64), none, (.pure (.extract 0)), [(.tmp 61)]⟩, []⟩, ⟨0, ⟨(some 65), none, (.pure (.extract 1)), [(.tmp 61)]⟩, []⟩, ⟨0, ⟨(some 16), none, (.new (.alloc [.nils, .nils])), []⟩, []⟩, ⟨0, ⟨none, none, (.imp (.store 2)), [(.tmp 16), (.tmp 64)]⟩, []⟩, ⟨0, ⟨(some 17), none, (.pure .id), [(.tmp 65)]⟩, []⟩]) (.seq (.region [⟨0, ⟨(some 67), none, (.load (.load 2 true)), [(.tmp 5)]⟩, []⟩, ⟨0, ⟨(some 68), none, (.call F_skolemref03_Close), [(.tmp 67)]⟩, []⟩, ⟨0, ⟨(some 66), none, (.pure .id), [(.tmp 68)]⟩, []⟩, ⟨0, ⟨(some 69), none, (.pure (.extract 0)), [(.tmp 66)]⟩, []⟩, ⟨0, ⟨(some 70), none, (.pure (.extract 1)), [(.tmp 66)]⟩, []⟩, ⟨0, ⟨(some 18), none, (.new (.alloc [.nils, .nils])), []⟩, []⟩, ⟨0, ⟨none, none, (.imp (.store 2)), [(.tmp 18), (.tmp 69)]⟩, []⟩, ⟨0, ⟨(some 19), none, (.pure .id), [(.tmp 70)]⟩, []⟩]) (.seq (.region [⟨0, ⟨(some 71), none, (.pure .id), [(.tmp 8)]⟩, []⟩, ⟨0, ⟨(some 72), none, (.pure .id), [(.tmp 10)]⟩, []⟩, ⟨0, ⟨(some 73), none, (.call F_skolemref03_Same), [(.tmp 71), (.tmp 72)]⟩, []⟩, ⟨0, ⟨(some 74), none, (.pure .id), [(.tmp 73)]⟩, []⟩, ⟨0, ⟨(some 75), (some (74, true)), (.pure .id), [(.tmp 9)]⟩, []⟩, ⟨0, ⟨(some 76), (some (74, true)), (.pure .id), [(.tmp 11)]⟩, []⟩, ⟨0, ⟨(some 77), (some (74, true)), (.pure (.bin .eql .none)), [(.tmp 75), (.tmp 76)]⟩, []⟩, ⟨0, ⟨(some 78), none, (.pure .pick), [(.tmp 74), (.tmp 77), (.const (.bool false))]⟩, []⟩, ⟨0, ⟨(some 79), none, (.pure .id), [(.tmp 78)]⟩, []⟩, ⟨0, ⟨(some 80), (some (79, true)), (.pure .id), [(.tmp 12)]⟩, []⟩, ⟨0, ⟨(some 81), (some (79, true)), (.pure .id), [(.tmp 14)]⟩, []⟩, ⟨0, ⟨(some 82), (some (79, true)), (.call F_skolemref03_Same), [(.tmp 80), (.tmp 81)]⟩, []⟩, ⟨0, ⟨(some 83), none, (.pure .pick), [(.tmp 79), (.tmp 82), (.const (.bool false))]⟩, []⟩, ⟨0, ⟨(some 84), none, (.pure .id), [(.tmp 83)]⟩, []⟩, ⟨0, ⟨(some 85), (some (84, true)), (.pure .id), [(.tmp 13)]⟩, []⟩, ⟨0, ⟨(some 86), (some (84, true)), (.pure .id), [(.tmp 15)]⟩, []⟩, ⟨0, ⟨(some 87), (some (84, true)), (.pure (.bin .eql .none)), [(.tmp 85), (.tmp 86)]⟩, []⟩, ⟨0, ⟨(some 88), none, (.pure .pick), [(.tmp 84), (.tmp 87), (.const (.bool false))]⟩, []⟩, ⟨0, ⟨(some 89), none, (.pure .id), [(.tmp 88)]⟩, []⟩, ⟨0, ⟨(some 90), (some (89, true)), (.load (.load 2 true)), [(.tmp 16)]⟩, []⟩, ⟨0, ⟨(some 91), (some (89, true)), (.load (.load 2 true)), [(.tmp 18)]⟩, []⟩, ⟨0, ⟨(some 92), (some (89, true)), (.call F_skolemref03_SameQbf), [(.tmp 90), (.tmp 91)]⟩, []⟩, ⟨0, ⟨(some 93), none, (.pure .pick), [(.tmp 89), (.tmp 92), (.const (.bool false))]⟩, []⟩, ⟨0, ⟨(some 94), none, (.pure .id), [(.tmp 93)]⟩, []⟩, ⟨0, ⟨(some 95), (some (94, true)), (.pure .id), [(.tmp 17)]⟩, []⟩, ⟨0, ⟨(some 96), (some (94, true)), (.pure .id), [(.tmp 19)]⟩, []⟩, ⟨0, ⟨(some 97), (some (94, true)), (.pure (.bin .eql .none)), [(.tmp 95), (.tmp 96)]⟩, []⟩, ⟨0, ⟨(some 98), none, (.pure .pick), [(.tmp 94), (.tmp 97), (.const (.bool false))]⟩, []⟩, ⟨0, ⟨(some 20), none, (.pure .id), [(.tmp 98)]⟩, []⟩]) (.seq (.seq (.region [⟨0, ⟨(some 21), none, (.pure .id), [(.const (.int .i64 0))]⟩, []⟩]) (.block 0 (.loop (.seq (.seq (.region [⟨0, ⟨(some 99), none, (.pure .id), [(.tmp 21)]⟩, []⟩, ⟨0, ⟨(some 100), none, (.pure .id), [(.tmp 8)]⟩, []⟩, ⟨0, ⟨(some 101), none, (.pure .len), [(.tmp 100)]⟩, []⟩, ⟨0, ⟨(some 102), none, (.pure (.bin .lss .none)), [(.tmp 99), (.tmp 101)]⟩, []⟩]) (.cond (.tmp 102) .skip (.exit 0))) (.seq (.block 1 (.region [⟨0, ⟨(some 105), none, (.pure .id), [(.tmp 8)]⟩, []⟩, ⟨0, ⟨(some 106), none, (.pure .id), [(.tmp 21)]⟩, []⟩, ⟨0, ⟨(some 107), none, (.pure (.iaddr 2)), [(.tmp 105), (.tmp 106)]⟩, []⟩, ⟨0, ⟨(some 108), none, (.pure (.faddr 1)), [(.tmp 107)]⟩, []⟩, ⟨0, ⟨(some 109), none, (.load (.load 1 false)), [(.tmp 108)]⟩, []⟩, ⟨0, ⟨(some 110), none, (.pure (.iaddr 1)), [(.tmp 109), (.const (.int .i64 0))]⟩, []⟩, ⟨0, ⟨none, none, (.imp (.store 1)), [(.tmp 110), (.const (.int .i64 (-7)))]⟩, []⟩])) (.region [⟨0, ⟨(some 103), none, (.pure .id), [(.tmp 21)]⟩, []⟩, ⟨0, ⟨(some 104), none, (.pure (.bin .add .none)), [(.tmp 103), (.const (.int .i64 1))]⟩, []⟩, ⟨0, ⟨(some 21), none, (.pure .id), [(.tmp 104)]⟩, []⟩])))))) (.seq (.region [⟨0, ⟨(some 111), none, (.pure .id), [(.tmp 20)]⟩, []⟩, ⟨0, ⟨(some 112), none, (.pure .id), [(.tmp 111)]⟩, []⟩, ⟨0, ⟨(some 113), (some (112, true)), (.pure .id), [(.tmp 0)]⟩, []⟩, ⟨0, ⟨(some 114), (some (112, true)), (.call F_skolemref03_Flat), [(.tmp 113)]⟩, []⟩, ⟨0, ⟨(some 115), (some (112, true)), (.pure .id), [(.tmp 7)]⟩, []⟩, ⟨0, ⟨(some 116), (some (112, true)), (.call F_skolemref03_Ints), [(.tmp 114), (.tmp 115)]⟩, []⟩, ⟨0, ⟨(some 117), none, (.pure .pick), [(.tmp 112), (.tmp 116), (.const (.bool false))]⟩, []⟩, ⟨0, ⟨(some 118), none, (.pure .id), [(.tmp 117)]⟩, []⟩, ⟨0, ⟨(some 119), (some (118, true)), (.call F_skolemlaw03_head), []⟩, []⟩, ⟨0, ⟨(some 120), none, (.pure .pick), [(.tmp 118), (.tmp 119), (.const (.bool false))]⟩, []⟩, ⟨0, ⟨(some 6), none, (.pure .id), [(.tmp 120)]⟩, []⟩]) .ret))))))))))))⟩
theorem c_skolemlaw03_PrefixMakes : compF Try.prog Try.f3 = some G_skolemlaw03_PrefixMakes := by kernel_rfl
theorem gc_skolemlaw03_PrefixMakes {args : List DV} {σ : GS} {Post : DV → GS → Prop} (h : @exB Try.prog ⟨G_skolemlaw03_PrefixMakes.body⟩ (genv0 args G_skolemlaw03_PrefixMakes.ntmps) σ ⟨@gretB G_skolemlaw03_PrefixMakes.results ⟨Post⟩⟩) : GCall Try.prog F_skolemlaw03_PrefixMakes args σ Post := gcall_ofB seatfollows Try.func3 (by kernel_rfl) c_skolemlaw03_PrefixMakes h
noncomputable abbrev G_prefix_Less : GFun := ⟨44, [(.tmp 4), (.tmp 5)], (.seq (.region [⟨0, ⟨(some 4), none, (.pure .id), [(.const .nils)]⟩, []⟩, ⟨0, ⟨(some 5), none, (.pure .id), [(.const (.int .i64 0))]⟩, []⟩]) (.seq (.seq (.region [⟨0, ⟨(some 12), none, (.pure .id), [(.tmp 0)]⟩, []⟩, ⟨0, ⟨(some 13), none, (.call F_prefix_May), [(.tmp 12)]⟩, []⟩, ⟨0, ⟨(some 14), none, (.pure (.un .not)), [(.tmp 13)]⟩, []⟩]) (.cond (.tmp 14) (.seq (.region [⟨0, ⟨(some 4), none, (.pure .id), [(.const .nils)]⟩, []⟩, ⟨0, ⟨(some 5), none, (.pure .id), [(.const (.int .i64 2))]⟩, []⟩]) .ret) .skip)) (.seq (.region [⟨0, ⟨(some 15), none, (.new .mmap), []⟩, []⟩, ⟨0, ⟨(some 6), none, (.new (.alloc [.nilmap])), []⟩, []⟩, ⟨0, ⟨none, none, (.imp (.store 1)), [(.tmp 6), (.tmp 15)]⟩, []⟩]) (.seq (.seq (.region [⟨0, ⟨(some 16), none, (.pure .id), [(.tmp 1)]⟩, []⟩, ⟨0, ⟨(some 17), none, (.pure .len), [(.tmp 16)]⟩, []⟩, ⟨0, ⟨(some 18), none, (.pure .id), [(.const (.int .i64 0))]⟩, []⟩]) (.block 0 (.loop (.seq (.region [⟨0, ⟨(some 19), none, (.pure (.bin .lss .none)), [(.tmp 18), (.tmp 17)]⟩, []⟩]) (.seq (.cond (.tmp 19) .skip (.exit 0)) (.seq (.block 1 (.seq (.region [⟨0, ⟨(some 20), none, (.pure (.iaddr 1)), [(.tmp 16), (.tmp 18)]⟩, []⟩, ⟨0, ⟨(some 21), none, (.load (.load 1 false)), [(.tmp 20)]⟩, []⟩, ⟨0, ⟨(some 8), none, (.pure .id), [(.tmp 21)]⟩, []⟩]) (.region [⟨0, ⟨(some 22), none, (.load (.load 1 false)), [(.tmp 6)]⟩, []⟩, ⟨0, ⟨(some 23), none, (.pure .id), [(.tmp 8)]⟩, []⟩, ⟨0, ⟨none, none, (.imp (.mset (.int .i64))), [(.tmp 22), (.tmp 23), (.const (.bool true))]⟩, []⟩]))) (.region [⟨0, ⟨(some 24), none, (.pure (.bin .add .none)), [(.tmp 18), (.const (.int .i64 1))]⟩, []⟩, ⟨0, ⟨(some 18), none, (.pure .id), [(.tmp 24)]⟩, []⟩]))))))) (.seq (.region [⟨0, ⟨(some 9), none, (.pure .id), [(.const .nils)]⟩, []⟩]) (.seq (.seq (.region [⟨0, ⟨(some 25), none, (.pure .id), [(.tmp 0)]⟩, []⟩, ⟨0, ⟨(some 26), none, (.pure .len), [(.tmp 25)]⟩, []⟩, ⟨0, ⟨(some 27), none, (.pure .id), [(.const (.int .i64 0))]⟩, []⟩]) (.block 2 (.loop (.seq (.region [⟨0, ⟨(some 28), none, (.pure (.bin .lss .none)), [(.tmp 27), (.tmp 26)]⟩, []⟩]) (.seq (.cond (.tmp 28) .skip (.exit 2)) (.seq (.block 3 (.seq (.region [⟨0, ⟨(some 29), none, (.pure (.iaddr 2)), [(.tmp 25), (.tmp 27)]⟩, []⟩, ⟨0, ⟨(some 30), none, (.load (.load 2 true)), [(.tmp 29)]⟩, []⟩, ⟨0, ⟨(some 11), none, (.new (.alloc [(.bool false), .nils])), []⟩, []⟩, ⟨0, ⟨none, none, (.imp (.store 2)), [(.tmp 11), (.tmp 30)]⟩, []⟩]) (.seq (.region [⟨0, ⟨(some 31), none, (.pure (.faddr 1)), [(.tmp 11)]⟩, []⟩, ⟨0, ⟨(some 32), none, (.load (.load 1 false)), [(.tmp 31)]⟩, []⟩, ⟨0, ⟨(some 33), none, (.call F_slices_Clone_int_int), [(.tmp 32)]⟩, []⟩, ⟨0, ⟨(some 34), none, (.pure (.mkfunc F_prefix_Less_1 0)), [(.tmp 6)]⟩, []⟩, ⟨0, ⟨(some 35), none, (.call F_slices_DeleteFunc_int_int), [(.tmp 33), (.tmp 34)]⟩, []⟩, ⟨0, ⟨(some 36), none, (.pure (.faddr 1)), [(.tmp 11)]⟩, []⟩, ⟨0, ⟨none, none, (.imp (.store 1)), [(.tmp 36), (.tmp 35)]⟩, []⟩]) (.region [⟨0, ⟨(some 37), none, (.pure .id), [(.tmp 9)]⟩, []⟩, ⟨0, ⟨(some 38), none, (.load (.load 2 true)), [(.tmp 11)]⟩, []⟩, ⟨0, ⟨(some 39), none, (.new (.bslice 2 [(.bool false), .nils] 1 [(0, 2)])), [(.tmp 38)]⟩, []⟩, ⟨0, ⟨(some 40), none, (.imp (.append 2 32)), [(.tmp 37), (.tmp 39)]⟩, []⟩, ⟨0, ⟨(some 9), none, (.pure .id), [(.tmp 40)]⟩, []⟩])))) (.region [⟨0, ⟨(some 41), none, (.pure (.bin .add .none)), [(.tmp 27), (.const (.int .i64 1))]⟩, []⟩, ⟨0, ⟨(some 27), none, (.pure .id), [(.tmp 41)]⟩, []⟩]))))))) (.seq (.region [⟨0, ⟨(some 42), none, (.pure .id), [(.tmp 9)]⟩, []⟩, ⟨0, ⟨(some 43), none, (.call F_prefix_joined), [(.tmp 42)]⟩, []⟩, ⟨0, ⟨(some 4), none, (.pure .id), [(.tmp 43)]⟩, []⟩, ⟨0, ⟨(some 5), none, (.pure .id), [(.const (.int .i64 0))]⟩, []⟩]) .ret)))))))⟩
theorem c_prefix_Less : compF Try.prog Try.f12 = some G_prefix_Less := by kernel_rfl
theorem gc_prefix_Less {args : List DV} {σ : GS} {Post : DV → GS → Prop} (h : @exB Try.prog ⟨G_prefix_Less.body⟩ (genv0 args G_prefix_Less.ntmps) σ ⟨@gretB G_prefix_Less.results ⟨Post⟩⟩) : GCall Try.prog F_prefix_Less args σ Post := gcall_ofB seatfollows Try.func12 (by kernel_rfl) c_prefix_Less h
noncomputable abbrev G_prefix_Less_1 : GFun := ⟨7, [(.tmp 3)], (.seq (.region [⟨0, ⟨(some 3), none, (.pure .id), [(.const (.bool false))]⟩, []⟩]) (.seq (.region [⟨0, ⟨(some 4), none, (.load (.load 1 false)), [(.tmp 1)]⟩, []⟩, ⟨0, ⟨(some 5), none, (.pure .id), [(.tmp 0)]⟩, []⟩, ⟨0, ⟨(some 6), none, (.load (.lookup (.int .i64) (.bool false) false)), [(.tmp 4), (.tmp 5)]⟩, []⟩, ⟨0, ⟨(some 3), none, (.pure .id), [(.tmp 6)]⟩, []⟩]) .ret))⟩
theorem c_prefix_Less_1 : compF Try.prog Try.f39 = some G_prefix_Less_1 := by kernel_rfl
theorem gc_prefix_Less_1 {args : List DV} {σ : GS} {Post : DV → GS → Prop} (h : @exB Try.prog ⟨G_prefix_Less_1.body⟩ (genv0 args G_prefix_Less_1.ntmps) σ ⟨@gretB G_prefix_Less_1.results ⟨Post⟩⟩) : GCall Try.prog F_prefix_Less_1 args σ Post := gcall_ofB seatfollows Try.func39 (by kernel_rfl) c_prefix_Less_1 h
noncomputable abbrev G_skolemref03_Less : GFun := ⟨65, [(.tmp 4), (.tmp 5)], (.seq (.region [⟨0, ⟨(some 4), none, (.pure .id), [(.const .nils)]⟩, []⟩, ⟨0, ⟨(some 5), none, (.pure .id), [(.const (.int .i64 0))]⟩, []⟩]) (.seq (.seq (.region [⟨0, ⟨(some 10), none, (.pure .id), [(.tmp 0)]⟩, []⟩, ⟨0, ⟨(some 11), none, (.call F_skolemref03_May), [(.tmp 10)]⟩, []⟩, ⟨0, ⟨(some 12), none, (.pure (.un .not)), [(.tmp 11)]⟩, []⟩]) (.cond (.tmp 12) (.seq (.region [⟨0, ⟨(some 4), none, (.pure .id), [(.const .nils)]⟩, []⟩, ⟨0, ⟨(some 5), none, (.pure .id), [(.const (.int .i64 2))]⟩, []⟩]) .ret) .skip)) (.seq (.region [⟨0, ⟨(some 6), none, (.pure .id), [(.const .nils)]⟩, []⟩]) (.seq (.seq (.region [⟨0, ⟨(some 7), none, (.pure .id), [(.const (.int .i64 0))]⟩, []⟩]) (.block 0 (.loop (.seq (.seq (.region [⟨0, ⟨(some 13), none, (.pure .id), [(.tmp 7)]⟩, []⟩, ⟨0, ⟨(some 14), none, (.pure .id), [(.tmp 0)]⟩, []⟩, ⟨0, ⟨(some 15), none, (.pure .len), [(.tmp 14)]⟩, []⟩, ⟨0, ⟨(some 16), none, (.pure (.bin .lss .none)), [(.tmp 13), (.tmp 15)]⟩, []⟩]) (.cond (.tmp 16) .skip (.exit 0))) (.seq (.block 1 (.seq (.region [⟨0, ⟨(some 19), none, (.pure .id), [(.tmp 0)]⟩, []⟩, ⟨0, ⟨(some 20), none, (.pure .id), [(.tmp 7)]⟩, []⟩, ⟨0, ⟨(some 21), none, (.pure (.iaddr 2)), [(.tmp 19), (.tmp 20)]⟩, []⟩, ⟨0, ⟨(some 22), none, (.pure (.faddr 0)), [(.tmp 21)]⟩, []⟩, ⟨0, ⟨(some 23), none, (.load (.load 1 false)), [(.tmp 22)]⟩, []⟩, ⟨0, ⟨(some 24), none, (.pure (.build [(.bool false), .nils] [(0, 1)])), [(.tmp 23)]⟩, []⟩, ⟨0, ⟨(some 8), none, (.new (.alloc [(.bool false), .nils])), []⟩, []⟩, ⟨0, ⟨none, none, (.imp (.store 2)), [(.tmp 8), (.tmp 24)]⟩, []⟩]) (.seq (.seq (.region [⟨0, ⟨(some 9), none, (.pure .id), [(.const (.int .i64 0))]⟩, []⟩]) (.block 2 (.loop (.seq (.seq (.region [⟨0, ⟨(some 25), none, (.pure .id), [(.tmp 9)]⟩, []⟩, ⟨0, ⟨(some 26), none, (.pure .id), [(.tmp 0)]⟩, []⟩, ⟨0, ⟨(some 27), none, (.pure .id), [(.tmp 7)]⟩, []⟩, ⟨0, ⟨(some 28), none, (.pure (.iaddr 2)), [(.tmp 26), (.tmp 27)]⟩, []⟩, ⟨0, ⟨(some 29), none, (.pure (.faddr 1)), [(.tmp 28)]⟩, []⟩, ⟨0, ⟨(some 30), none, (.load (.load 1 false)), [(.tmp 29)]⟩, []⟩, ⟨0, ⟨(some 31), none, (.pure .len), [(.tmp 30)]⟩, []⟩, ⟨0, ⟨(some 32), none, (.pure (.bin .lss .none)), [(.tmp 25), (.tmp 31)]⟩, []⟩]) (.cond (.tmp 32) .skip (.exit 2))) (.seq (.block 3 (.seq (.region [⟨0, ⟨(some 35), none, (.pure .id), [(.tmp 1)]⟩, []⟩, ⟨0, ⟨(some 36), none, (.pure .id), [(.tmp 0)]⟩, []⟩, ⟨0, ⟨(some 37), none, (.pure .id), [(.tmp 7)]⟩, []⟩, ⟨0, ⟨(some 38), none, (.pure (.iaddr 2)), [(.tmp 36), (.tmp 37)]⟩, []⟩, ⟨0, ⟨(some 39), none, (.pure (.faddr 1)), [(.tmp 38)]⟩, []⟩, ⟨0, ⟨(some 40), none, (.load (.load 1 false)), [(.tmp 39)]⟩, []⟩, ⟨0, ⟨(some 41), none, (.pure .id), [(.tmp 9)]⟩, []⟩, ⟨0, ⟨(some 42), none, (.pure (.iaddr 1)), [(.tmp 40), (.tmp 41)]⟩, []⟩, ⟨0, ⟨(some 43), none, (.load (.load 1 false)), [(.tmp 42)]⟩, []⟩, ⟨0, ⟨(some 44), none, (.call F_skolemref03_Has), [(.tmp 35), (.tmp 43)]⟩, []⟩, ⟨0, ⟨(some 45), none, (.pure (.un .not)), [(.tmp 44)]⟩, []⟩]) (.cond (.tmp 45) (.region [⟨0, ⟨(some 46), none, (.pure (.faddr 1)), [(.tmp 8)]⟩, []⟩, ⟨1, ⟨(some 47), none, (.load (.load 1 false)), [(.tmp 46)]⟩, []⟩, ⟨2, ⟨(some 48), none, (.pure .id), [(.tmp 0)]⟩, []⟩, ⟨3, ⟨(some 49), none, (.pure .id), [(.tmp 7)]⟩, []⟩, ⟨4, ⟨(some 50), none, (.pure (.iaddr 2)), [(.tmp 48), (.tmp 49)]⟩, []⟩, ⟨5, ⟨(some 51), none, (.pure (.faddr 1)), [(.tmp 50)]⟩, []⟩, ⟨6, ⟨(some 52), none, (.load (.load 1 false)), [(.tmp 51)]⟩, []⟩, ⟨7, ⟨(some 53), none, (.pure .id), [(.tmp 9)]⟩, []⟩, ⟨8, ⟨(some 54), none, (.pure (.iaddr 1)), [(.tmp 52), (.tmp 53)]⟩, []⟩, ⟨9, ⟨(some 55), none, (.load (.load 1 false)), [(.tmp 54)]⟩, []⟩, ⟨10, ⟨(some 56), none, (.new (.bslice 1 [(.int .i64 0)] 1 [(0, 1)])), [(.tmp 55)]⟩, []⟩, ⟨11, ⟨(some 57), none, (.imp (.append 1 8)), [(.tmp 47), (.tmp 56)]⟩, []⟩, ⟨12, ⟨(some 58), none, (.pure (.faddr 1)), [(.tmp 8)]⟩, []⟩, ⟨13, ⟨none, none, (.imp (.store 1)), [(.tmp 58), (.tmp 57)]⟩, []⟩]) .skip))) (.region [⟨0, ⟨(some 33), none, (.pure .id), [(.tmp 9)]⟩, []⟩, ⟨0, ⟨(some 34), none, (.pure (.bin .add .none)), [(.tmp 33), (.const (.int .i64 1))]⟩, []⟩, ⟨0, ⟨(some 9), none, (.pure .id), [(.tmp 34)]⟩, []⟩])))))) (.region [⟨0, ⟨(some 59), none, (.pure .id), [(.tmp 6)]⟩, []⟩, ⟨0, ⟨(some 60), none, (.load (.load 2 true)), [(.tmp 8)]⟩, []⟩, ⟨0, ⟨(some 61), none, (.new (.bslice 2 [(.bool false), .nils] 1 [(0, 2)])), [(.tmp 60)]⟩, []⟩, ⟨0, ⟨(some 62), none, (.imp (.append 2 32)), [(.tmp 59), (.tmp 61)]⟩, []⟩, ⟨0, ⟨(some 6), none, (.pure .id), [(.tmp 62)]⟩, []⟩])))) (.region [⟨0, ⟨(some 17), none, (.pure .id), [(.tmp 7)]⟩, []⟩, ⟨0, ⟨(some 18), none, (.pure (.bin .add .none)), [(.tmp 17), (.const (.int .i64 1))]⟩, []⟩, ⟨0, ⟨(some 7), none, (.pure .id), [(.tmp 18)]⟩, []⟩])))))) (.seq (.region [⟨0, ⟨(some 63), none, (.pure .id), [(.tmp 6)]⟩, []⟩, ⟨0, ⟨(some 64), none, (.call F_skolemref03_Joined), [(.tmp 63)]⟩, []⟩, ⟨0, ⟨(some 4), none, (.pure .id), [(.tmp 64)]⟩, []⟩, ⟨0, ⟨(some 5), none, (.pure .id), [(.const (.int .i64 0))]⟩, []⟩]) .ret)))))⟩
theorem c_skolemref03_Less : compF Try.prog Try.f13 = some G_skolemref03_Less := by kernel_rfl
theorem gc_skolemref03_Less {args : List DV} {σ : GS} {Post : DV → GS → Prop} (h : @exB Try.prog ⟨G_skolemref03_Less.body⟩ (genv0 args G_skolemref03_Less.ntmps) σ ⟨@gretB G_skolemref03_Less.results ⟨Post⟩⟩) : GCall Try.prog F_skolemref03_Less args σ Post := gcall_ofB seatfollows Try.func13 (by kernel_rfl) c_skolemref03_Less h
noncomputable abbrev G_skolemref03_Put : GFun := ⟨49, [(.tmp 4)], (.seq (.region [⟨0, ⟨(some 4), none, (.pure .id), [(.const .nils)]⟩, []⟩]) (.seq (.region [⟨0, ⟨(some 5), none, (.pure .id), [(.const .nils)]⟩, []⟩]) (.seq (.region [⟨0, ⟨(some 6), none, (.pure .id), [(.const (.bool false))]⟩, []⟩]) (.seq (.seq (.region [⟨0, ⟨(some 7), none, (.pure .id), [(.const (.int .i64 0))]⟩, []⟩]) (.block 0 (.loop (.seq (.seq (.region [⟨0, ⟨(some 8), none, (.pure .id), [(.tmp 7)]⟩, []⟩, ⟨0, ⟨(some 9), none, (.pure .id), [(.tmp 0)]⟩, []⟩, ⟨0, ⟨(some 10), none, (.pure .len), [(.tmp 9)]⟩, []⟩, ⟨0, ⟨(some 11), none, (.pure (.bin .lss .none)), [(.tmp 8), (.tmp 10)]⟩, []⟩]) (.cond (.tmp 11) .skip (.exit 0))) (.seq (.block 1 (.seq (.seq (.region [⟨0, ⟨(some 14), none, (.pure .id), [(.tmp 0)]⟩, []⟩, ⟨0, ⟨(some 15), none, (.pure .id), [(.tmp 7)]⟩, []⟩, ⟨0, ⟨(some 16), none, (.pure (.iaddr 1)), [(.tmp 14), (.tmp 15)]⟩, []⟩, ⟨0, ⟨(some 17), none, (.load (.load 1 false)), [(.tmp 16)]⟩, []⟩, ⟨0, ⟨(some 18), none, (.pure .id), [(.tmp 1)]⟩, []⟩, ⟨0, ⟨(some 19), none, (.pure (.bin .eql .none)), [(.tmp 17), (.tmp 18)]⟩, []⟩]) (.cond (.tmp 19) (.seq (.region [⟨0, ⟨(some 20), none, (.pure .id), [(.tmp 0)]⟩, []⟩, ⟨0, ⟨(some 4), none, (.pure .id), [(.tmp 20)]⟩, []⟩]) .ret) .skip)) (.seq (.seq (.region [⟨0, ⟨(some 21), none, (.pure .id), [(.tmp 6)]⟩, []⟩, ⟨0, ⟨(some 22), none, (.pure (.un .not)), [(.tmp 21)]⟩, []⟩, ⟨0, ⟨(some 23), none, (.pure .id), [(.tmp 22)]⟩, []⟩, ⟨0, ⟨(some 24), (some (23, true)), (.pure .id), [(.tmp 0)]⟩, []⟩, ⟨0, ⟨(some 25), (some (23, true)), (.pure .id), [(.tmp 7)]⟩, []⟩, ⟨0, ⟨(some 26), (some (23, true)), (.pure (.iaddr 1)), [(.tmp 24), (.tmp 25)]⟩, []⟩, ⟨0, ⟨(some 27), (some (23, true)), (.load (.load 1 false)), [(.tmp 26)]⟩, []⟩, ⟨0, ⟨(some 28), (some (23, true)), (.pure .id), [(.tmp 1)]⟩, []⟩, ⟨0, ⟨(some 29), (some (23, true)), (.pure (.bin .gtr .none)), [(.tmp 27), (.tmp 28)]⟩, []⟩, ⟨0, ⟨(some 30), none, (.pure .pick), [(.tmp 23), (.tmp 29), (.const (.bool false))]⟩, []⟩]) (.cond (.tmp 30) (.seq (.region [⟨0, ⟨(some 31), none, (.pure .id), [(.tmp 5)]⟩, []⟩, ⟨0, ⟨(some 32), none, (.pure .id), [(.tmp 1)]⟩, []⟩, ⟨0, ⟨(some 33), none, (.new (.bslice 1 [(.int .i64 0)] 1 [(0, 1)])), [(.tmp 32)]⟩, []⟩, ⟨0, ⟨(some 34), none, (.imp (.append 1 8)), [(.tmp 31), (.tmp 33)]⟩, []⟩, ⟨0, ⟨(some 5), none, (.pure .id), [(.tmp 34)]⟩, []⟩]) (.region [⟨0, ⟨(some 6), none, (.pure .id), [(.const (.bool true))]⟩, []⟩])) .skip)) (.region [⟨0, ⟨(some 35), none, (.pure .id), [(.tmp 5)]⟩, []⟩, ⟨0, ⟨(some 36), none, (.pure .id), [(.tmp 0)]⟩, []⟩, ⟨0, ⟨(some 37), none, (.pure .id), [(.tmp 7)]⟩, []⟩, ⟨0, ⟨(some 38), none, (.pure (.iaddr 1)), [(.tmp 36), (.tmp 37)]⟩, []⟩, ⟨0, ⟨(some 39), none, (.load (.load 1 false)), [(.tmp 38)]⟩, []⟩, ⟨0, ⟨(some 40), none, (.new (.bslice 1 [(.int .i64 0)] 1 [(0, 1)])), [(.tmp 39)]⟩, []⟩, ⟨0, ⟨(some 41), none, (.imp (.append 1 8)), [(.tmp 35), (.tmp 40)]⟩, []⟩, ⟨0, ⟨(some 5), none, (.pure .id), [(.tmp 41)]⟩, []⟩])))) (.region [⟨0, ⟨(some 12), none, (.pure .id), [(.tmp 7)]⟩, []⟩, ⟨0, ⟨(some 13), none, (.pure (.bin .add .none)), [(.tmp 12), (.const (.int .i64 1))]⟩, []⟩, ⟨0, ⟨(some 7), none, (.pure .id), [(.tmp 13)]⟩, []⟩])))))) (.seq (.seq (.region [⟨0, ⟨(some 42), none, (.pure .id), [(.tmp 6)]⟩, []⟩, ⟨0, ⟨(some 43), none, (.pure (.un .not)), [(.tmp 42)]⟩, []⟩]) (.cond (.tmp 43) (.region [⟨0, ⟨(some 44), none, (.pure .id), [(.tmp 5)]⟩, []⟩, ⟨0, ⟨(some 45), none, (.pure .id), [(.tmp 1)]⟩, []⟩, ⟨0, ⟨(some 46), none, (.new (.bslice 1 [(.int .i64 0)] 1 [(0, 1)])), [(.tmp 45)]⟩, []⟩, ⟨0, ⟨(some 47), none, (.imp (.append 1 8)), [(.tmp 44), (.tmp 46)]⟩, []⟩, ⟨0, ⟨(some 5), none, (.pure .id), [(.tmp 47)]⟩, []⟩]) .skip)) (.seq (.region [⟨0, ⟨(some 48), none, (.pure .id), [(.tmp 5)]⟩, []⟩, ⟨0, ⟨(some 4), none, (.pure .id), [(.tmp 48)]⟩, []⟩]) .ret))))))⟩
theorem c_skolemref03_Put : compF Try.prog Try.f49 = some G_skolemref03_Put := by kernel_rfl
theorem gc_skolemref03_Put {args : List DV} {σ : GS} {Post : DV → GS → Prop} (h : @exB Try.prog ⟨G_skolemref03_Put.body⟩ (genv0 args G_skolemref03_Put.ntmps) σ ⟨@gretB G_skolemref03_Put.results ⟨Post⟩⟩) : GCall Try.prog F_skolemref03_Put args σ Post := gcall_ofB seatfollows Try.func49 (by kernel_rfl) c_skolemref03_Put h
noncomputable abbrev G_prefix_Close : GFun := ⟨99, [(.cell 2 2 true), (.tmp 3)], (.seq (.region [⟨0, ⟨(some 1), none, (.new .box), [(.tmp 0)]⟩, []⟩, ⟨0, ⟨(some 2), none, (.new (.alloc [.nils, .nils])), []⟩, []⟩, ⟨0, ⟨(some 3), none, (.pure .id), [(.const (.int .i64 0))]⟩, []⟩]) (.seq (.seq (.region [⟨0, ⟨(some 14), none, (.pure (.faddr 0)), [(.tmp 1)]⟩, []⟩, ⟨0, ⟨(some 15), none, (.load (.load 1 false)), [(.tmp 14)]⟩, []⟩, ⟨0, ⟨(some 16), none, (.call F_prefix_May), [(.tmp 15)]⟩, []⟩, ⟨0, ⟨(some 17), none, (.pure (.un .not)), [(.tmp 16)]⟩, []⟩, ⟨0, ⟨(some 18), none, (.pure .id), [(.tmp 17)]⟩, []⟩, ⟨0, ⟨(some 19), (some (18, false)), (.pure (.faddr 1)), [(.tmp 1)]⟩, []⟩, ⟨0, ⟨(some 20), (some (18, false)), (.load (.load 1 false)), [(.tmp 19)]⟩, []⟩, ⟨0, ⟨(some 21), (some (18, false)), (.call F_prefix_cnf), [(.tmp 20), (.const (.func F_prefix_Close_1 [] []))]⟩, []⟩, ⟨0, ⟨(some 22), (some (18, false)), (.pure (.un .not)), [(.tmp 21)]⟩, []⟩, ⟨0, ⟨(some 23), none, (.pure .pick), [(.tmp 18), (.const (.bool true)), (.tmp 22)]⟩, []⟩]) (.cond (.tmp 23) (.seq (.region [⟨0, ⟨(some 24), none, (.pure (.build [.nils, .nils] [])), []⟩, []⟩, ⟨0, ⟨none, none, (.imp (.store 2)), [(.tmp 2), (.tmp 24)]⟩, []⟩, ⟨0, ⟨(some 3), none, (.pure .id), [(.const (.int .i64 2))]⟩, []⟩]) .ret) .skip)) (.seq (.region [⟨0, ⟨(some 25), none, (.pure (.faddr 0)), [(.tmp 1)]⟩, []⟩, ⟨0, ⟨(some 26), none, (.load (.load 1 false)), [(.tmp 25)]⟩, []⟩, ⟨0, ⟨(some 27), none, (.call F_prefix_places), [(.tmp 26)]⟩, []⟩, ⟨0, ⟨(some 4), none, (.pure .id), [(.tmp 27)]⟩, []⟩]) (.seq (.region [⟨0, ⟨(some 28), none, (.pure (.build [(.bool false), .nils] [(0, 1)])), [(.const (.bool true))]⟩, []⟩, ⟨0, ⟨(some 5), none, (.new (.alloc [(.bool false), .nils])), []⟩, []⟩, ⟨0, ⟨none, none, (.imp (.store 2)), [(.tmp 5), (.tmp 28)]⟩, []⟩]) (.seq (.region [⟨0, ⟨(some 29), none, (.pure .id), [(.tmp 4)]⟩, []⟩, ⟨0, ⟨(some 30), none, (.load .mlen), [(.tmp 29)]⟩, []⟩, ⟨0, ⟨(some 6), none, (.pure .id), [(.tmp 30)]⟩, []⟩]) (.seq (.seq (.region [⟨0, ⟨(some 31), none, (.pure (.faddr 1)), [(.tmp 1)]⟩, []⟩, ⟨0, ⟨(some 32), none, (.load (.load 1 false)), [(.tmp 31)]⟩, []⟩, ⟨0, ⟨(some 33), none, (.pure .len), [(.tmp 32)]⟩, []⟩, ⟨0, ⟨(some 34), none, (.pure .id), [(.const (.int .i64 0))]⟩, []⟩]) (.block 0 (.loop (.seq (.region [⟨0, ⟨(some 35), none, (.pure (.bin .lss .none)), [(.tmp 34), (.tmp 33)]⟩, []⟩]) (.seq (.cond (.tmp 35) .skip (.exit 0)) (.seq (.block 1 (.seq (.region [⟨0, ⟨(some 36), none, (.pure (.iaddr 1)), [(.tmp 32), (.tmp 34)]⟩, []⟩, ⟨0, ⟨(some 37), none, (.load (.load 1 false)), [(.tmp 36)]⟩, []⟩, ⟨0, ⟨(some 8), none, (.pure .id), [(.tmp 37)]⟩, []⟩]) (.seq (.region [⟨0, ⟨(some 38), none, (.pure .id), [(.tmp 8)]⟩, []⟩, ⟨0, ⟨(some 39), none, (.pure .len), [(.tmp 38)]⟩, []⟩, ⟨0, ⟨(some 40), none, (.pure .id), [(.const (.int .i64 0))]⟩, []⟩]) (.block 2 (.loop (.seq (.region [⟨0, ⟨(some 41), none, (.pure (.bin .lss .none)), [(.tmp 40), (.tmp 39)]⟩, []⟩]) (.seq (.cond (.tmp 41) .skip (.exit 2)) (.seq (.block 3 (.seq (.region [⟨0, ⟨(some 42), none, (.pure (.iaddr 1)), [(.tmp 38), (.tmp 40)]⟩, []⟩, ⟨0, ⟨(some 43), none, (.load (.load 1 false)), [(.tmp 42)]⟩, []⟩, ⟨0, ⟨(some 10), none, (.pure .id), [(.tmp 43)]⟩, []⟩]) (.seq (.region [⟨0, ⟨(some 45), none, (.pure .id), [(.tmp 4)]⟩, []⟩, ⟨0, ⟨(some 46), none, (.pure .id), [(.tmp 10)]⟩, []⟩, ⟨0, ⟨(some 47), none, (.call F_prefix_abs), [(.tmp 46)]⟩, []⟩, ⟨0, ⟨(some 48), none, (.load (.lookup (.int .i64) (.agg [(.int .i64 0), (.bool false)]) true)), [(.tmp 45), (.tmp 47)]⟩, []⟩, ⟨0, ⟨(some 44), none, (.pure .id), [(.tmp 48)]⟩, []⟩, ⟨0, ⟨(some 49), none, (.pure (.extract 0)), [(.tmp 44)]⟩, []⟩, ⟨0, ⟨(some 50), none, (.pure (.extract 1)), [(.tmp 44)]⟩, []⟩, ⟨0, ⟨(some 11), none, (.new (.alloc [(.int .i64 0), (.bool false)])), []⟩, []⟩, ⟨0, ⟨none, none, (.imp (.store 2)), [(.tmp 11), (.tmp 49)]⟩, []⟩, ⟨0, ⟨(some 12), none, (.pure .id), [(.tmp 50)]⟩, []⟩]) (.seq (.region [⟨0, ⟨(some 51), none, (.pure .id), [(.tmp 12)]⟩, []⟩, ⟨0, ⟨(some 52), none, (.pure (.un .not)), [(.tmp 51)]⟩, []⟩]) (.cond (.tmp 52) (.seq (.region [⟨0, ⟨(some 53), none, (.pure .id), [(.tmp 4)]⟩, []⟩, ⟨0, ⟨(some 54), none, (.pure .id), [(.tmp 10)]⟩, []⟩, ⟨0, ⟨(some 55), none, (.call F_prefix_abs), [(.tmp 54)]⟩, []⟩, ⟨0, ⟨(some 56), none, (.pure (.build [(.int .i64 0), (.bool false)] [])), []⟩, []⟩, ⟨0, ⟨none, none, (.imp (.mset (.int .i64))), [(.tmp 53), (.tmp 55), (.tmp 56)]⟩, []⟩]) (.region [⟨0, ⟨(some 57), none, (.pure (.faddr 1)), [(.tmp 5)]⟩, []⟩, ⟨1, ⟨(some 58), none, (.load (.load 1 false)), [(.tmp 57)]⟩, []⟩, ⟨2, ⟨(some 59), none, (.pure .id), [(.tmp 10)]⟩, []⟩, ⟨3, ⟨(some 60), none, (.call F_prefix_abs), [(.tmp 59)]⟩, [⟨(some 58), none, (.load (.load 1 false)), [(.tmp 57)]⟩]⟩, ⟨4, ⟨(some 61), none, (.new (.bslice 1 [(.int .i64 0)] 1 [(0, 1)])), [(.tmp 60)]⟩, []⟩, ⟨5, ⟨(some 62), none, (.imp (.append 1 8)), [(.tmp 58), (.tmp 61)]⟩, []⟩, ⟨6, ⟨(some 63), none, (.pure (.faddr 1)), [(.tmp 5)]⟩, []⟩, ⟨7, ⟨none, none, (.imp (.store 1)), [(.tmp 63), (.tmp 62)]⟩, []⟩])) .skip))))) (.region [⟨0, ⟨(some 64), none, (.pure (.bin .add .none)), [(.tmp 40), (.const (.int .i64 1))]⟩, []⟩, ⟨0, ⟨(some 40), none, (.pure .id), [(.tmp 64)]⟩, []⟩]))))))))) (.region [⟨0, ⟨(some 65), none, (.pure (.bin .add .none)), [(.tmp 34), (.const (.int .i64 1))]⟩, []⟩, ⟨0, ⟨(some 34), none, (.pure .id), [(.tmp 65)]⟩, []⟩]))))))) (.seq (.seq (.region [⟨0, ⟨(some 66), none, (.pure .id), [(.tmp 6)]⟩, []⟩, ⟨0, ⟨(some 67), none, (.pure (.faddr 1)), [(.tmp 5)]⟩, []⟩, ⟨0, ⟨(some 68), none, (.load (.load 1 false)), [(.tmp 67)]⟩, []⟩, ⟨0, ⟨(some 69), none, (.pure .len), [(.tmp 68)]⟩, []⟩, ⟨0, ⟨(some 70), none, (.pure (.bin .add .none)), [(.tmp 66), (.tmp 69)]⟩, []⟩, ⟨0, ⟨(some 71), none, (.pure (.bin .gtr .none)), [(.tmp 70), (.const (.int .i64 1024))]⟩, []⟩]) (.cond (.tmp 71) (.seq (.region [⟨0, ⟨(some 72), none, (.pure (.build [.nils, .nils] [])), []⟩, []⟩, ⟨0, ⟨none, none, (.imp (.store 2)), [(.tmp 2), (.tmp 72)]⟩, []⟩, ⟨0, ⟨(some 3), none, (.pure .id), [(.const (.int .i64 3))]⟩, []⟩]) .ret) .skip)) (.seq (.region [⟨0, ⟨(some 73), none, (.pure (.faddr 1)), [(.tmp 5)]⟩, []⟩, ⟨0, ⟨(some 74), none, (.load (.load 1 false)), [(.tmp 73)]⟩, []⟩, ⟨0, ⟨(some 75), none, (.call F_slices_Sort_int_int), [(.tmp 74)]⟩, []⟩]) (.seq (.region [⟨0, ⟨(some 13), none, (.pure .id), [(.const (.int .i64 0))]⟩, []⟩]) (.seq (.seq (.region [⟨0, ⟨(some 76), none, (.pure (.faddr 0)), [(.tmp 1)]⟩, []⟩, ⟨0, ⟨(some 77), none, (.load (.load 1 false)), [(.tmp 76)]⟩, []⟩, ⟨0, ⟨(some 78), none, (.pure .len), [(.tmp 77)]⟩, []⟩, ⟨0, ⟨(some 79), none, (.pure (.bin .gtr .none)), [(.tmp 78), (.const (.int .i64 0))]⟩, []⟩, ⟨0, ⟨(some 80), none, (.pure .id), [(.tmp 79)]⟩, []⟩, ⟨0, ⟨(some 81), (some (80, true)), (.pure (.faddr 0)), [(.tmp 1)]⟩, []⟩, ⟨0, ⟨(some 82), (some (80, true)), (.load (.load 1 false)), [(.tmp 81)]⟩, []⟩, ⟨0, ⟨(some 83), (some (80, true)), (.pure (.iaddr 2)), [(.tmp 82), (.const (.int .i64 0))]⟩, []⟩, ⟨0, ⟨(some 84), (some (80, true)), (.pure (.faddr 0)), [(.tmp 83)]⟩, []⟩, ⟨0, ⟨(some 85), (some (80, true)), (.load (.load 1 false)), [(.tmp 84)]⟩, []⟩, ⟨0, ⟨(some 86), none, (.pure .pick), [(.tmp 80), (.tmp 85), (.const (.bool false))]⟩, []⟩]) (.cond (.tmp 86) (.region [⟨0, ⟨(some 13), none, (.pure .id), [(.const (.int .i64 1))]⟩, []⟩]) .skip)) (.seq (.region [⟨0, ⟨(some 87), none, (.pure (.faddr 0)), [(.tmp 1)]⟩, []⟩, ⟨1, ⟨(some 88), none, (.load (.load 1 false)), [(.tmp 87)]⟩, []⟩, ⟨3, ⟨(some 90), none, (.pure .id), [(.tmp 13)]⟩, []⟩, ⟨4, ⟨(some 91), none, (.load (.load 2 true)), [(.tmp 5)]⟩, []⟩, ⟨5, ⟨(some 92), none, (.new (.bslice 2 [(.bool false), .nils] 1 [(0, 2)])), [(.tmp 91)]⟩, []⟩, ⟨8, ⟨(some 95), none, (.pure (.faddr 1)), [(.tmp 1)]⟩, []⟩, ⟨9, ⟨(some 96), none, (.load (.load 1 false)), [(.tmp 95)]⟩, []⟩, ⟨2, ⟨(some 89), none, (.call F_slices_Clone_api_Block_api_Block), [(.tmp 88)]⟩, [⟨(some 91), none, (.load (.load 2 true)), [(.tmp 5)]⟩, ⟨(some 92), none, (.new (.bslice 2 [(.bool false), .nils] 1 [(0, 2)])), [(.tmp 91)]⟩, ⟨(some 96), none, (.load (.load 1 false)), [(.tmp 95)]⟩]⟩, ⟨6, ⟨(some 93), none, (.call F_slices_Insert_api_Block_api_Block), [(.tmp 89), (.tmp 90), (.tmp 92)]⟩, [⟨(some 96), none, (.load (.load 1 false)), [(.tmp 95)]⟩]⟩, ⟨7, ⟨(some 94), none, (.call F_prefix_joined), [(.tmp 93)]⟩, [⟨(some 96), none, (.load (.load 1 false)), [(.tmp 95)]⟩]⟩, ⟨10, ⟨(some 97), none, (.call F_prefix_copied), [(.tmp 96)]⟩, []⟩, ⟨11, ⟨(some 98), none, (.pure (.build [.nils, .nils] [(0, 1), (1, 1)])), [(.tmp 94), (.tmp 97)]⟩, []⟩, ⟨12, ⟨none, none, (.imp (.store 2)), [(.tmp 2), (.tmp 98)]⟩, []⟩, ⟨13, ⟨(some 3), none, (.pure .id), [(.const (.int .i64 0))]⟩, []⟩]) .ret)))))))))))⟩
theorem c_prefix_Close : compF Try.prog Try.f14 = some G_prefix_Close := by kernel_rfl
theorem gc_prefix_Close {args : List DV} {σ : GS} {Post : DV → GS → Prop} (h : @exB Try.prog ⟨G_prefix_Close.body⟩ (genv0 args G_prefix_Close.ntmps) σ ⟨@gretB G_prefix_Close.results ⟨Post⟩⟩) : GCall Try.prog F_prefix_Close args σ Post := gcall_ofB seatfollows Try.func14 (by kernel_rfl) c_prefix_Close h
noncomputable abbrev G_prefix_Close_1 : GFun := ⟨3, [(.tmp 2)], (.seq (.region [⟨0, ⟨(some 2), none, (.pure .id), [(.const (.bool false))]⟩, []⟩]) (.seq (.region [⟨0, ⟨(some 2), none, (.pure .id), [(.const (.bool true))]⟩, []⟩]) .ret))⟩
theorem c_prefix_Close_1 : compF Try.prog Try.f41 = some G_prefix_Close_1 := by kernel_rfl
theorem gc_prefix_Close_1 {args : List DV} {σ : GS} {Post : DV → GS → Prop} (h : @exB Try.prog ⟨G_prefix_Close_1.body⟩ (genv0 args G_prefix_Close_1.ntmps) σ ⟨@gretB G_prefix_Close_1.results ⟨Post⟩⟩) : GCall Try.prog F_prefix_Close_1 args σ Post := gcall_ofB seatfollows Try.func41 (by kernel_rfl) c_prefix_Close_1 h
noncomputable abbrev G_slices_Clone_api_Block_api_Block : GFun := ⟨8, [(.tmp 2)], (.seq (.region [⟨0, ⟨(some 2), none, (.pure .id), [(.const .nils)]⟩, []⟩]) (.seq (.seq (.region [⟨0, ⟨(some 3), none, (.pure .id), [(.tmp 0)]⟩, []⟩, ⟨0, ⟨(some 4), none, (.eqn false), [(.tmp 3), (.const .nils)]⟩, []⟩]) (.cond (.tmp 4) (.seq (.region [⟨0, ⟨(some 2), none, (.pure .id), [(.const .nils)]⟩, []⟩]) .ret) .skip)) (.seq (.region [⟨0, ⟨(some 5), none, (.new (.bslice 2 [(.bool false), .nils] 0 [])), []⟩, []⟩, ⟨0, ⟨(some 6), none, (.pure .id), [(.tmp 0)]⟩, []⟩, ⟨0, ⟨(some 7), none, (.imp (.append 2 32)), [(.tmp 5), (.tmp 6)]⟩, []⟩, ⟨0, ⟨(some 2), none, (.pure .id), [(.tmp 7)]⟩, []⟩]) .ret)))⟩
theorem c_slices_Clone_api_Block_api_Block : compF Try.prog Try.f46 = some G_slices_Clone_api_Block_api_Block := by kernel_rfl
theorem gc_slices_Clone_api_Block_api_Block {args : List DV} {σ : GS} {Post : DV → GS → Prop} (h : @exB Try.prog ⟨G_slices_Clone_api_Block_api_Block.body⟩ (genv0 args G_slices_Clone_api_Block_api_Block.ntmps) σ ⟨@gretB G_slices_Clone_api_Block_api_Block.results ⟨Post⟩⟩) : GCall Try.prog F_slices_Clone_api_Block_api_Block args σ Post := gcall_ofB seatfollows Try.func46 (by kernel_rfl) c_slices_Clone_api_Block_api_Block h
noncomputable abbrev G_prefix_copied : GFun := ⟨23, [(.tmp 2)], (.seq (.region [⟨0, ⟨(some 2), none, (.pure .id), [(.const .nils)]⟩, []⟩]) (.seq (.region [⟨0, ⟨(some 6), none, (.pure .id), [(.tmp 0)]⟩, []⟩, ⟨0, ⟨(some 7), none, (.pure .len), [(.tmp 6)]⟩, []⟩, ⟨0, ⟨(some 8), none, (.new (.mslice 1 24 [.nils])), [(.tmp 7), (.tmp 7)]⟩, []⟩, ⟨0, ⟨(some 3), none, (.pure .id), [(.tmp 8)]⟩, []⟩]) (.seq (.seq (.region [⟨0, ⟨(some 9), none, (.pure .id), [(.tmp 0)]⟩, []⟩, ⟨0, ⟨(some 10), none, (.pure .len), [(.tmp 9)]⟩, []⟩, ⟨0, ⟨(some 11), none, (.pure .id), [(.const (.int .i64 0))]⟩, []⟩]) (.block 0 (.loop (.seq (.region [⟨0, ⟨(some 12), none, (.pure (.bin .lss .none)), [(.tmp 11), (.tmp 10)]⟩, []⟩]) (.seq (.cond (.tmp 12) .skip (.exit 0)) (.seq (.block 1 (.seq (.region [⟨0, ⟨(some 13), none, (.pure .id), [(.tmp 11)]⟩, []⟩, ⟨0, ⟨(some 14), none, (.pure (.iaddr 1)), [(.tmp 9), (.tmp 11)]⟩, []⟩, ⟨0, ⟨(some 15), none, (.load (.load 1 false)), [(.tmp 14)]⟩, []⟩, ⟨0, ⟨(some 4), none, (.pure .id), [(.tmp 13)]⟩, []⟩, ⟨0, ⟨(some 5), none, (.pure .id), [(.tmp 15)]⟩, []⟩]) (.region [⟨0, ⟨(some 16), none, (.pure .id), [(.tmp 3)]⟩, []⟩, ⟨0, ⟨(some 17), none, (.pure .id), [(.tmp 4)]⟩, []⟩, ⟨0, ⟨(some 18), none, (.pure .id), [(.tmp 5)]⟩, []⟩, ⟨0, ⟨(some 19), none, (.call F_slices_Clone_int_int), [(.tmp 18)]⟩, []⟩, ⟨0, ⟨(some 20), none, (.pure (.iaddr 1)), [(.tmp 16), (.tmp 17)]⟩, []⟩, ⟨0, ⟨none, none, (.imp (.store 1)), [(.tmp 20), (.tmp 19)]⟩, []⟩]))) (.region [⟨0, ⟨(some 21), none, (.pure (.bin .add .none)), [(.tmp 11), (.const (.int .i64 1))]⟩, []⟩, ⟨0, ⟨(some 11), none, (.pure .id), [(.tmp 21)]⟩, []⟩]))))))) (.seq (.region [⟨0, ⟨(some 22), none, (.pure .id), [(.tmp 3)]⟩, []⟩, ⟨0, ⟨(some 2), none, (.pure .id), [(.tmp 22)]⟩, []⟩]) .ret))))⟩
theorem c_prefix_copied : compF Try.prog Try.f47 = some G_prefix_copied := by kernel_rfl
theorem gc_prefix_copied {args : List DV} {σ : GS} {Post : DV → GS → Prop} (h : @exB Try.prog ⟨G_prefix_copied.body⟩ (genv0 args G_prefix_copied.ntmps) σ ⟨@gretB G_prefix_copied.results ⟨Post⟩⟩) : GCall Try.prog F_prefix_copied args σ Post := gcall_ofB seatfollows Try.func47 (by kernel_rfl) c_prefix_copied h
noncomputable abbrev G_skolemref03_Close : GFun := ⟨100, [(.cell 2 2 true), (.tmp 3)], (.seq (.region [⟨0, ⟨(some 1), none, (.new .box), [(.tmp 0)]⟩, []⟩, ⟨0, ⟨(some 2), none, (.new (.alloc [.nils, .nils])), []⟩, []⟩, ⟨0, ⟨(some 3), none, (.pure .id), [(.const (.int .i64 0))]⟩, []⟩]) (.seq (.seq (.region [⟨0, ⟨(some 11), none, (.pure (.faddr 0)), [(.tmp 1)]⟩, []⟩, ⟨0, ⟨(some 12), none, (.load (.load 1 false)), [(.tmp 11)]⟩, []⟩, ⟨0, ⟨(some 13), none, (.call F_skolemref03_May), [(.tmp 12)]⟩, []⟩, ⟨0, ⟨(some 14), none, (.pure (.un .not)), [(.tmp 13)]⟩, []⟩, ⟨0, ⟨(some 15), none, (.pure .id), [(.tmp 14)]⟩, []⟩, ⟨0, ⟨(some 16), (some (15, false)), (.pure (.faddr 1)), [(.tmp 1)]⟩, []⟩, ⟨0, ⟨(some 17), (some (15, false)), (.load (.load 1 false)), [(.tmp 16)]⟩, []⟩, ⟨0, ⟨(some 18), (some (15, false)), (.call F_skolemref03_Cnf), [(.tmp 17)]⟩, []⟩, ⟨0, ⟨(some 19), (some (15, false)), (.pure (.un .not)), [(.tmp 18)]⟩, []⟩, ⟨0, ⟨(some 20), none, (.pure .pick), [(.tmp 15), (.const (.bool true)), (.tmp 19)]⟩, []⟩]) (.cond (.tmp 20) (.seq (.region [⟨0, ⟨(some 21), none, (.pure (.build [.nils, .nils] [])), []⟩, []⟩, ⟨0, ⟨none, none, (.imp (.store 2)), [(.tmp 2), (.tmp 21)]⟩, []⟩, ⟨0, ⟨(some 3), none, (.pure .id), [(.const (.int .i64 2))]⟩, []⟩]) .ret) .skip)) (.seq (.region [⟨0, ⟨(some 22), none, (.pure (.faddr 0)), [(.tmp 1)]⟩, []⟩, ⟨0, ⟨(some 23), none, (.load (.load 1 false)), [(.tmp 22)]⟩, []⟩, ⟨0, ⟨(some 24), none, (.call F_skolemref03_Flat), [(.tmp 23)]⟩, []⟩, ⟨0, ⟨(some 4), none, (.pure .id), [(.tmp 24)]⟩, []⟩]) (.seq (.region [⟨0, ⟨(some 5), none, (.pure .id), [(.const .nils)]⟩, []⟩]) (.seq (.seq (.region [⟨0, ⟨(some 6), none, (.pure .id), [(.const (.int .i64 0))]⟩, []⟩]) (.block 0 (.loop (.seq (.seq (.region [⟨0, ⟨(some 25), none, (.pure .id), [(.tmp 6)]⟩, []⟩, ⟨0, ⟨(some 26), none, (.pure (.faddr 1)), [(.tmp 1)]⟩, []⟩, ⟨0, ⟨(some 27), none, (.load (.load 1 false)), [(.tmp 26)]⟩, []⟩, ⟨0, ⟨(some 28), none, (.pure .len), [(.tmp 27)]⟩, []⟩, ⟨0, ⟨(some 29), none, (.pure (.bin .lss .none)), [(.tmp 25), (.tmp 28)]⟩, []⟩]) (.cond (.tmp 29) .skip (.exit 0))) (.seq (.block 1 (.seq (.region [⟨0, ⟨(some 7), none, (.pure .id), [(.const (.int .i64 0))]⟩, []⟩]) (.block 2 (.loop (.seq (.seq (.region [⟨0, ⟨(some 32), none, (.pure .id), [(.tmp 7)]⟩, []⟩, ⟨0, ⟨(some 33), none, (.pure (.faddr 1)), [(.tmp 1)]⟩, []⟩, ⟨0, ⟨(some 34), none, (.load (.load 1 false)), [(.tmp 33)]⟩, []⟩, ⟨0, ⟨(some 35), none, (.pure .id), [(.tmp 6)]⟩, []⟩, ⟨0, ⟨(some 36), none, (.pure (.iaddr 1)), [(.tmp 34), (.tmp 35)]⟩, []⟩, ⟨0, ⟨(some 37), none, (.load (.load 1 false)), [(.tmp 36)]⟩, []⟩, ⟨0, ⟨(some 38), none, (.pure .len), [(.tmp 37)]⟩, []⟩, ⟨0, ⟨(some 39), none, (.pure (.bin .lss .none)), [(.tmp 32), (.tmp 38)]⟩, []⟩]) (.cond (.tmp 39) .skip (.exit 2))) (.seq (.block 3 (.seq (.region [⟨0, ⟨(some 42), none, (.pure (.faddr 1)), [(.tmp 1)]⟩, []⟩, ⟨0, ⟨(some 43), none, (.load (.load 1 false)), [(.tmp 42)]⟩, []⟩, ⟨0, ⟨(some 44), none, (.pure .id), [(.tmp 6)]⟩, []⟩, ⟨0, ⟨(some 45), none, (.pure (.iaddr 1)), [(.tmp 43), (.tmp 44)]⟩, []⟩, ⟨0, ⟨(some 46), none, (.load (.load 1 false)), [(.tmp 45)]⟩, []⟩, ⟨0, ⟨(some 47), none, (.pure .id), [(.tmp 7)]⟩, []⟩, ⟨0, ⟨(some 48), none, (.pure (.iaddr 1)), [(.tmp 46), (.tmp 47)]⟩, []⟩, ⟨0, ⟨(some 49), none, (.load (.load 1 false)), [(.tmp 48)]⟩, []⟩, ⟨0, ⟨(some 50), none, (.call F_skolemref03_Abs), [(.tmp 49)]⟩, []⟩, ⟨0, ⟨(some 8), none, (.pure .id), [(.tmp 50)]⟩, []⟩]) (.seq (.region [⟨0, ⟨(some 51), none, (.pure .id), [(.tmp 4)]⟩, []⟩, ⟨0, ⟨(some 52), none, (.pure .id), [(.tmp 8)]⟩, []⟩, ⟨0, ⟨(some 53), none, (.call F_skolemref03_Has), [(.tmp 51), (.tmp 52)]⟩, []⟩, ⟨0, ⟨(some 54), none, (.pure (.un .not)), [(.tmp 53)]⟩, []⟩]) (.cond (.tmp 54) (.region [⟨0, ⟨(some 55), none, (.pure .id), [(.tmp 5)]⟩, []⟩, ⟨0, ⟨(some 56), none, (.pure .id), [(.tmp 8)]⟩, []⟩, ⟨0, ⟨(some 57), none, (.call F_skolemref03_Put), [(.tmp 55), (.tmp 56)]⟩, []⟩, ⟨0, ⟨(some 5), none, (.pure .id), [(.tmp 57)]⟩, []⟩]) .skip)))) (.region [⟨0, ⟨(some 40), none, (.pure .id), [(.tmp 7)]⟩, []⟩, ⟨0, ⟨(some 41), none, (.pure (.bin .add .none)), [(.tmp 40), (.const (.int .i64 1))]⟩, []⟩, ⟨0, ⟨(some 7), none, (.pure .id), [(.tmp 41)]⟩, []⟩]))))))) (.region [⟨0, ⟨(some 30), none, (.pure .id), [(.tmp 6)]⟩, []⟩, ⟨0, ⟨(some 31), none, (.pure (.bin .add .none)), [(.tmp 30), (.const (.int .i64 1))]⟩, []⟩, ⟨0, ⟨(some 6), none, (.pure .id), [(.tmp 31)]⟩, []⟩])))))) (.seq (.seq (.region [⟨0, ⟨(some 58), none, (.pure .id), [(.tmp 4)]⟩, []⟩, ⟨0, ⟨(some 59), none, (.pure .len), [(.tmp 58)]⟩, []⟩, ⟨0, ⟨(some 60), none, (.pure .id), [(.tmp 5)]⟩, []⟩, ⟨0, ⟨(some 61), none, (.pure .len), [(.tmp 60)]⟩, []⟩, ⟨0, ⟨(some 62), none, (.pure (.bin .add .none)), [(.tmp 59), (.tmp 61)]⟩, []⟩, ⟨0, ⟨(some 63), none, (.pure (.bin .gtr .none)), [(.tmp 62), (.const (.int .i64 1024))]⟩, []⟩]) (.cond (.tmp 63) (.seq (.region [⟨0, ⟨(some 64), none, (.pure (.build [.nils, .nils] [])), []⟩, []⟩, ⟨0, ⟨none, none, (.imp (.store 2)), [(.tmp 2), (.tmp 64)]⟩, []⟩, ⟨0, ⟨(some 3), none, (.pure .id), [(.const (.int .i64 3))]⟩, []⟩]) .ret) .skip)) (.seq (.region [⟨0, ⟨(some 65), none, (.pure (.faddr 0)), [(.tmp 1)]⟩, []⟩, ⟨0, ⟨(some 66), none, (.load (.load 1 false)), [(.tmp 65)]⟩, []⟩, ⟨0, ⟨(some 9), none, (.pure .id), [(.tmp 66)]⟩, []⟩]) (.seq (.seq (.region [⟨0, ⟨(some 67), none, (.pure .id), [(.tmp 9)]⟩, []⟩, ⟨0, ⟨(some 68), none, (.pure .len), [(.tmp 67)]⟩, []⟩, ⟨0, ⟨(some 69), none, (.pure (.bin .gtr .none)), [(.tmp 68), (.const (.int .i64 0))]⟩, []⟩, ⟨0, ⟨(some 70), none, (.pure .id), [(.tmp 69)]⟩, []⟩, ⟨0, ⟨(some 71), (some (70, true)), (.pure .id), [(.tmp 9)]⟩, []⟩, ⟨0, ⟨(some 72), (some (70, true)), (.pure (.iaddr 2)), [(.tmp 71), (.const (.int .i64 0))]⟩, []⟩, ⟨0, ⟨(some 73), (some (70, true)), (.pure (.faddr 0)), [(.tmp 72)]⟩, []⟩, ⟨0, ⟨(some 74), (some (70, true)), (.load (.load 1 false)), [(.tmp 73)]⟩, []⟩, ⟨0, ⟨(some 75), none, (.pure .pick), [(.tmp 70), (.tmp 74), (.const (.bool false))]⟩, []⟩]) (.cond (.tmp 75) (.seq (.region [⟨0, ⟨(some 76), none, (.new (.bslice 1 [(.int .i64 0)] 0 [])), []⟩, []⟩, ⟨0, ⟨(some 77), none, (.pure .id), [(.tmp 9)]⟩, []⟩, ⟨0, ⟨(some 78), none, (.pure (.iaddr 2)), [(.tmp 77), (.const (.int .i64 0))]⟩, []⟩, ⟨0, ⟨(some 79), none, (.pure (.faddr 1)), [(.tmp 78)]⟩, []⟩, ⟨0, ⟨(some 80), none, (.load (.load 1 false)), [(.tmp 79)]⟩, []⟩, ⟨0, ⟨(some 81), none, (.imp (.append 1 8)), [(.tmp 76), (.tmp 80)]⟩, []⟩, ⟨0, ⟨(some 82), none, (.pure .id), [(.tmp 5)]⟩, []⟩, ⟨0, ⟨(some 83), none, (.imp (.append 1 8)), [(.tmp 81), (.tmp 82)]⟩, []⟩, ⟨0, ⟨(some 10), none, (.pure .id), [(.tmp 83)]⟩, []⟩]) (.region [⟨0, ⟨(some 84), none, (.pure .id), [(.tmp 10)]⟩, []⟩, ⟨0, ⟨(some 85), none, (.pure (.build [(.bool false), .nils] [(0, 1), (1, 1)])), [(.const (.bool true)), (.tmp 84)]⟩, []⟩, ⟨0, ⟨(some 86), none, (.new (.bslice 2 [(.bool false), .nils] 1 [(0, 2)])), [(.tmp 85)]⟩, []⟩, ⟨0, ⟨(some 87), none, (.pure .id), [(.tmp 9)]⟩, []⟩, ⟨0, ⟨(some 88), none, (.pure (.slice 2 true false false)), [(.tmp 87), (.const (.int .i64 1))]⟩, []⟩, ⟨0, ⟨(some 89), none, (.imp (.append 2 32)), [(.tmp 86), (.tmp 88)]⟩, []⟩, ⟨0, ⟨(some 9), none, (.pure .id), [(.tmp 89)]⟩, []⟩])) (.region [⟨0, ⟨(some 90), none, (.pure .id), [(.tmp 5)]⟩, []⟩, ⟨0, ⟨(some 91), none, (.pure (.build [(.bool false), .nils] [(0, 1), (1, 1)])), [(.const (.bool true)), (.tmp 90)]⟩, []⟩, ⟨0, ⟨(some 92), none, (.new (.bslice 2 [(.bool false), .nils] 1 [(0, 2)])), [(.tmp 91)]⟩, []⟩, ⟨0, ⟨(some 93), none, (.pure .id), [(.tmp 9)]⟩, []⟩, ⟨0, ⟨(some 94), none, (.imp (.append 2 32)), [(.tmp 92), (.tmp 93)]⟩, []⟩, ⟨0, ⟨(some 9), none, (.pure .id), [(.tmp 94)]⟩, []⟩]))) (.seq (.region [⟨0, ⟨(some 95), none, (.pure .id), [(.tmp 9)]⟩, []⟩, ⟨2, ⟨(some 97), none, (.pure (.faddr 1)), [(.tmp 1)]⟩, []⟩, ⟨3, ⟨(some 98), none, (.load (.load 1 false)), [(.tmp 97)]⟩, []⟩, ⟨1, ⟨(some 96), none, (.call F_skolemref03_Joined), [(.tmp 95)]⟩, [⟨(some 98), none, (.load (.load 1 false)), [(.tmp 97)]⟩]⟩, ⟨4, ⟨(some 99), none, (.pure (.build [.nils, .nils] [(0, 1), (1, 1)])), [(.tmp 96), (.tmp 98)]⟩, []⟩, ⟨5, ⟨none, none, (.imp (.store 2)), [(.tmp 2), (.tmp 99)]⟩, []⟩, ⟨6, ⟨(some 3), none, (.pure .id), [(.const (.int .i64 0))]⟩, []⟩]) .ret)))))))))⟩
theorem c_skolemref03_Close : compF Try.prog Try.f15 = some G_skolemref03_Close := by kernel_rfl
theorem gc_skolemref03_Close {args : List DV} {σ : GS} {Post : DV → GS → Prop} (h : @exB Try.prog ⟨G_skolemref03_Close.body⟩ (genv0 args G_skolemref03_Close.ntmps) σ ⟨@gretB G_skolemref03_Close.results ⟨Post⟩⟩) : GCall Try.prog F_skolemref03_Close args σ Post := gcall_ofB seatfollows Try.func15 (by kernel_rfl) c_skolemref03_Close h
noncomputable abbrev G_skolemref03_SameQbf : GFun := ⟨17, [(.tmp 4)], (.seq (.region [⟨0, ⟨(some 2), none, (.new .box), [(.tmp 0)]⟩, []⟩, ⟨0, ⟨(some 3), none, (.new .box), [(.tmp 1)]⟩, []⟩, ⟨0, ⟨(some 4), none, (.pure .id), [(.const (.bool false))]⟩, []⟩]) (.seq (.region [⟨0, ⟨(some 5), none, (.pure (.faddr 0)), [(.tmp 2)]⟩, []⟩, ⟨0, ⟨(some 6), none, (.load (.load 1 false)), [(.tmp 5)]⟩, []⟩, ⟨0, ⟨(some 7), none, (.pure (.faddr 0)), [(.tmp 3)]⟩, []⟩, ⟨0, ⟨(some 8), none, (.load (.load 1 false)), [(.tmp 7)]⟩, []⟩, ⟨0, ⟨(some 9), none, (.call F_skolemref03_Same), [(.tmp 6), (.tmp 8)]⟩, []⟩, ⟨0, ⟨(some 10), none, (.pure .id), [(.tmp 9)]⟩, []⟩, ⟨0, ⟨(some 11), (some (10, true)), (.pure (.faddr 1)), [(.tmp 2)]⟩, []⟩, ⟨0, ⟨(some 12), (some (10, true)), (.load (.load 1 false)), [(.tmp 11)]⟩, []⟩, ⟨0, ⟨(some 13), (some (10, true)), (.pure (.faddr 1)), [(.tmp 3)]⟩, []⟩, ⟨0, ⟨(some 14), (some (10, true)), (.load (.load 1 false)), [(.tmp 13)]⟩, []⟩, ⟨0, ⟨(some 15), (some (10, true)), (.call F_skolemref03_Lists), [(.tmp 12), (.tmp 14)]⟩, []⟩, ⟨0, ⟨(some 16), none, (.pure .pick), [(.tmp 10), (.tmp 15), (.const (.bool false))]⟩, []⟩, ⟨0, ⟨(some 4), none, (.pure .id), [(.tmp 16)]⟩, []⟩]) .ret))⟩
theorem c_skolemref03_SameQbf : compF Try.prog Try.f17 = some G_skolemref03_SameQbf := by kernel_rfl
theorem gc_skolemref03_SameQbf {args : List DV} {σ : GS} {Post : DV → GS → Prop} (h : @exB Try.prog ⟨G_skolemref03_SameQbf.body⟩ (genv0 args G_skolemref03_SameQbf.ntmps) σ ⟨@gretB G_skolemref03_SameQbf.results ⟨Post⟩⟩) : GCall Try.prog F_skolemref03_SameQbf args σ Post := gcall_ofB seatfollows Try.func17 (by kernel_rfl) c_skolemref03_SameQbf h
noncomputable abbrev G_skolemref03_Joined : GFun := ⟨73, [(.tmp 2)], (.seq (.region [⟨0, ⟨(some 2), none, (.pure .id), [(.const .nils)]⟩, []⟩]) (.seq (.region [⟨0, ⟨(some 3), none, (.pure .id), [(.const .nils)]⟩, []⟩]) (.seq (.seq (.region [⟨0, ⟨(some 4), none, (.pure .id), [(.const (.int .i64 0))]⟩, []⟩]) (.block 0 (.loop (.seq (.seq (.region [⟨0, ⟨(some 6), none, (.pure .id), [(.tmp 4)]⟩, []⟩, ⟨0, ⟨(some 7), none, (.pure .id), [(.tmp 0)]⟩, []⟩, ⟨0, ⟨(some 8), none, (.pure .len), [(.tmp 7)]⟩, []⟩, ⟨0, ⟨(some 9), none, (.pure (.bin .lss .none)), [(.tmp 6), (.tmp 8)]⟩, []⟩]) (.cond (.tmp 9) .skip (.exit 0))) (.seq (.block 1 (.seq (.region [⟨0, ⟨(some 12), none, (.pure .id), [(.tmp 3)]⟩, []⟩, ⟨0, ⟨(some 13), none, (.pure .len), [(.tmp 12)]⟩, []⟩, ⟨0, ⟨(some 5), none, (.pure .id), [(.tmp 13)]⟩, []⟩]) (.seq (.seq (.region [⟨0, ⟨(some 14), none, (.pure .id), [(.tmp 0)]⟩, []⟩, ⟨0, ⟨(some 15), none, (.pure .id), [(.tmp 4)]⟩, []⟩, ⟨0, ⟨(some 16), none, (.pure (.iaddr 2)), [(.tmp 14), (.tmp 15)]⟩, []⟩, ⟨0, ⟨(some 17), none, (.pure (.faddr 1)), [(.tmp 16)]⟩, []⟩, ⟨0, ⟨(some 18), none, (.load (.load 1 false)), [(.tmp 17)]⟩, []⟩, ⟨0, ⟨(some 19), none, (.pure .len), [(.tmp 18)]⟩, []⟩, ⟨0, ⟨(some 20), none, (.pure (.bin .eql .none)), [(.tmp 19), (.const (.int .i64 0))]⟩, []⟩]) (.cond (.tmp 20) (.exit 1) .skip)) (.seq (.region [⟨0, ⟨(some 21), none, (.pure .id), [(.tmp 5)]⟩, []⟩, ⟨1, ⟨(some 22), none, (.pure (.bin .gtr .none)), [(.tmp 21), (.const (.int .i64 0))]⟩, []⟩, ⟨2, ⟨(some 23), none, (.pure .id), [(.tmp 22)]⟩, []⟩, ⟨3, ⟨(some 24), (some (23, true)), (.pure .id), [(.tmp 3)]⟩, []⟩, ⟨4, ⟨(some 25), (some (23, true)), (.pure .id), [(.tmp 5)]⟩, []⟩, ⟨5, ⟨(some 26), (some (23, true)), (.pure (.bin .sub .none)), [(.tmp 25), (.const (.int .i64 1))]⟩, []⟩, ⟨6, ⟨(some 27), (some (23, true)), (.pure (.iaddr 2)), [(.tmp 24), (.tmp 26)]⟩, []⟩, ⟨7, ⟨(some 28), (some (23, true)), (.pure (.faddr 0)), [(.tmp 27)]⟩, []⟩, ⟨8, ⟨(some 29), (some (23, true)), (.load (.load 1 false)), [(.tmp 28)]⟩, []⟩, ⟨9, ⟨(some 30), (some (23, true)), (.pure .id), [(.tmp 0)]⟩, []⟩, ⟨10, ⟨(some 31), (some (23, true)), (.pure .id), [(.tmp 4)]⟩, []⟩, ⟨11, ⟨(some 32), (some (23, true)), (.pure (.iaddr 2)), [(.tmp 30), (.tmp 31)]⟩, []⟩, ⟨12, ⟨(some 33), (some (23, true)), (.pure (.faddr 0)), [(.tmp 32)]⟩, []⟩, ⟨13, ⟨(some 34), (some (23, true)), (.load (.load 1 false)), [(.tmp 33)]⟩, []⟩, ⟨14, ⟨(some 35), (some (23, true)), (.pure (.bin .eql .bool)), [(.tmp 29), (.tmp 34)]⟩, []⟩, ⟨15, ⟨(some 36), none, (.pure .pick), [(.tmp 23), (.tmp 35), (.const (.bool false))]⟩, []⟩]) (.cond (.tmp 36) (.region [⟨0, ⟨(some 37), none, (.pure .id), [(.tmp 3)]⟩, []⟩, ⟨1, ⟨(some 38), none, (.pure .id), [(.tmp 5)]⟩, []⟩, ⟨2, ⟨(some 39), none, (.pure (.bin .sub .none)), [(.tmp 38), (.const (.int .i64 1))]⟩, []⟩, ⟨3, ⟨(some 40), none, (.new (.bslice 1 [(.int .i64 0)] 0 [])), []⟩, []⟩, ⟨4, ⟨(some 41), none, (.pure .id), [(.tmp 3)]⟩, []⟩, ⟨5, ⟨(some 42), none, (.pure .id), [(.tmp 5)]⟩, []⟩, ⟨6, ⟨(some 43), none, (.pure (.bin .sub .none)), [(.tmp 42), (.const (.int .i64 1))]⟩, []⟩, ⟨7, ⟨(some 44), none, (.pure (.iaddr 2)), [(.tmp 41), (.tmp 43)]⟩, []⟩, ⟨8, ⟨(some 45), none, (.pure (.faddr 1)), [(.tmp 44)]⟩, []⟩, ⟨9, ⟨(some 46), none, (.load (.load 1 false)), [(.tmp 45)]⟩, []⟩, ⟨11, ⟨(some 48), none, (.pure .id), [(.tmp 0)]⟩, []⟩, ⟨12, ⟨(some 49), none, (.pure .id), [(.tmp 4)]⟩, []⟩, ⟨13, ⟨(some 50), none, (.pure (.iaddr 2)), [(.tmp 48), (.tmp 49)]⟩, []⟩, ⟨14, ⟨(some 51), none, (.pure (.faddr 1)), [(.tmp 50)]⟩, []⟩, ⟨15, ⟨(some 52), none, (.load (.load 1 false)), [(.tmp 51)]⟩, []⟩, ⟨10, ⟨(some 47), none, (.imp (.append 1 8)), [(.tmp 40), (.tmp 46)]⟩, [⟨(some 52), none, (.load (.load 1 false)), [(.tmp 51)]⟩]⟩, ⟨16, ⟨(some 53), none, (.imp (.append 1 8)), [(.tmp 47), (.tmp 52)]⟩, []⟩, ⟨17, ⟨(some 54), none, (.pure (.iaddr 2)), [(.tmp 37), (.tmp 39)]⟩, []⟩, ⟨18, ⟨(some 55), none, (.pure (.faddr 1)), [(.tmp 54)]⟩, []⟩, ⟨19, ⟨none, none, (.imp (.store 1)), [(.tmp 55), (.tmp 53)]⟩, []⟩]) (.region [⟨0, ⟨(some 56), none, (.pure .id), [(.tmp 3)]⟩, []⟩, ⟨1, ⟨(some 57), none, (.pure .id), [(.tmp 0)]⟩, []⟩, ⟨2, ⟨(some 58), none, (.pure .id), [(.tmp 4)]⟩, []⟩, ⟨3, ⟨(some 59), none, (.pure (.iaddr 2)), [(.tmp 57), (.tmp 58)]⟩, []⟩, ⟨4, ⟨(some 60), none, (.pure (.faddr 0)), [(.tmp 59)]⟩, []⟩, ⟨5, ⟨(some 61), none, (.load (.load 1 false)), [(.tmp 60)]⟩, []⟩, ⟨6, ⟨(some 62), none, (.new (.bslice 1 [(.int .i64 0)] 0 [])), []⟩, []⟩, ⟨7, ⟨(some 63), none, (.pure .id), [(.tmp 0)]⟩, []⟩, ⟨8, ⟨(some 64), none, (.pure .id), [(.tmp 4)]⟩, []⟩, ⟨9, ⟨(some 65), none, (.pure (.iaddr 2)), [(.tmp 63), (.tmp 64)]⟩, []⟩, ⟨10, ⟨(some 66), none, (.pure (.faddr 1)), [(.tmp 65)]⟩, []⟩, ⟨11, ⟨(some 67), none, (.load (.load 1 false)), [(.tmp 66)]⟩, []⟩, ⟨12, ⟨(some 68), none, (.imp (.append 1 8)), [(.tmp 62), (.tmp 67)]⟩, [⟨(some 61), none, (.load (.load 1 false)), [(.tmp 60)]⟩]⟩, ⟨13, ⟨(some 69), none, (.pure (.build [(.bool false), .nils] [(0, 1), (1, 1)])), [(.tmp 61), (.tmp 68)]⟩, []⟩, ⟨14, ⟨(some 70), none, (.new (.bslice 2 [(.bool false), .nils] 1 [(0, 2)])), [(.tmp 69)]⟩, []⟩, ⟨15, ⟨(some 71), none, (.imp (.append 2 32)), [(.tmp 56), (.tmp 70)]⟩, []⟩, ⟨16, ⟨(some 3), none, (.pure .id), [(.tmp 71)]⟩, []⟩])))))) (.region [⟨0, ⟨(some 10), none, (.pure .id), [(.tmp 4)]⟩, []⟩, ⟨0, ⟨(some 11), none, (.pure (.bin .add .none)), [(.tmp 10), (.const (.int .i64 1))]⟩, []⟩, ⟨0, ⟨(some 4), none, (.pure .id), [(.tmp 11)]⟩, []⟩])))))) (.seq (.region [⟨0, ⟨(some 72), none, (.pure .id), [(.tmp 3)]⟩, []⟩, ⟨0, ⟨(some 2), none, (.pure .id), [(.tmp 72)]⟩, []⟩]) .ret))))⟩
theorem c_skolemref03_Joined : compF Try.prog Try.f36 = some G_skolemref03_Joined := by kernel_rfl
theorem gc_skolemref03_Joined {args : List DV} {σ : GS} {Post : DV → GS → Prop} (h : @exB Try.prog ⟨G_skolemref03_Joined.body⟩ (genv0 args G_skolemref03_Joined.ntmps) σ ⟨@gretB G_skolemref03_Joined.results ⟨Post⟩⟩) : GCall Try.prog F_skolemref03_Joined args σ Post := gcall_ofB seatfollows Try.func36 (by kernel_rfl) c_skolemref03_Joined h
noncomputable abbrev G_skolemref03_Join : GFun := ⟨15, [(.tmp 2), (.tmp 3)], (.seq (.region [⟨0, ⟨(some 2), none, (.pure .id), [(.const .nils)]⟩, []⟩, ⟨0, ⟨(some 3), none, (.pure .id), [(.const (.int .i64 0))]⟩, []⟩]) (.seq (.region [⟨0, ⟨(some 5), none, (.pure .id), [(.tmp 0)]⟩, []⟩, ⟨0, ⟨(some 6), none, (.call F_skolemref03_Flat), [(.tmp 5)]⟩, []⟩, ⟨0, ⟨(some 4), none, (.pure .id), [(.tmp 6)]⟩, []⟩]) (.seq (.seq (.region [⟨0, ⟨(some 7), none, (.pure .id), [(.tmp 4)]⟩, []⟩, ⟨0, ⟨(some 8), none, (.call F_skolemref03_single), [(.tmp 7)]⟩, []⟩, ⟨0, ⟨(some 9), none, (.pure (.un .not)), [(.tmp 8)]⟩, []⟩]) (.cond (.tmp 9) (.seq (.region [⟨0, ⟨(some 2), none, (.pure .id), [(.const .nils)]⟩, []⟩, ⟨0, ⟨(some 3), none, (.pure .id), [(.const (.int .i64 2))]⟩, []⟩]) .ret) .skip)) (.seq (.seq (.region [⟨0, ⟨(some 10), none, (.pure .id), [(.tmp 4)]⟩, []⟩, ⟨0, ⟨(some 11), none, (.pure .len), [(.tmp 10)]⟩, []⟩, ⟨0, ⟨(some 12), none, (.pure (.bin .gtr .none)), [(.tmp 11), (.const (.int .i64 1024))]⟩, []⟩]) (.cond (.tmp 12) (.seq (.region [⟨0, ⟨(some 2), none, (.pure .id), [(.const .nils)]⟩, []⟩, ⟨0, ⟨(some 3), none, (.pure .id), [(.const (.int .i64 3))]⟩, []⟩]) .ret) .skip)) (.seq (.region [⟨0, ⟨(some 13), none, (.pure .id), [(.tmp 0)]⟩, []⟩, ⟨0, ⟨(some 14), none, (.call F_skolemref03_Joined), [(.tmp 13)]⟩, []⟩, ⟨0, ⟨(some 2), none, (.pure .id), [(.tmp 14)]⟩, []⟩, ⟨0, ⟨(some 3), none, (.pure .id), [(.const (.int .i64 0))]⟩, []⟩]) .ret)))))⟩
theorem c_skolemref03_Join : compF Try.prog Try.f11 = some G_skolemref03_Join := by kernel_rfl
theorem gc_skolemref03_Join {args : List DV} {σ : GS} {Post : DV → GS → Prop} (h : @exB Try.prog ⟨G_skolemref03_Join.body⟩ (genv0 args G_skolemref03_Join.ntmps) σ ⟨@gretB G_skolemref03_Join.results ⟨Post⟩⟩) : GCall Try.prog F_skolemref03_Join args σ Post := gcall_ofB seatfollows Try.func11 (by kernel_rfl) c_skolemref03_Join h
end Go.Gh
namespace Go.Gh
open Go.RowKit Go.Proofs
set_option linter.unusedVariables false
set_option linter.unusedSimpArgs false
set_option maxRecDepth 100000
theorem Own.nil0 {n : Nat} {σ : GS} (hn : n ≤ σ.length) : Own n 1 eint (σ ++ [.row false (gzeros [.int .i64 0] 0)]) (.slice σ.length 0 0 1 (some 0)) ([] : List Int) :=
  .inr ⟨σ.length, some 0, [], hn, by simp, by simp [gzeros], fun c hc => by cases hc; simp⟩
theorem r_Joined_ok {p : List Blk} {σ : GS} {Post : DV → GS → Prop} (hp : lensB p < 2 ^ 40) (k : ∀ s σ', Jn σ.length σ' s (joinB p) → Fr σ.length σ σ' → Post s σ') : GCall Try.prog F_skolemref03_Joined [fblks p] σ Post := by
  have hlb := lensB_flat p
  refine gc_skolemref03_Joined ?_
  simp [G_skolemref03_Joined, genv0, List.replicate]
  refine gfor p.length (fun i e σ' => Fr σ.length σ σ' ∧ ∃ s, Jn σ.length σ' s (joinB (p.take i)) ∧ e = mkEnv 73 [(0, fblks p), (3, s), (4, .int .i64 i)]) _ ?_ ⟨.rfl', .nils, by simpa [joinB] using Jn.nil, rfl⟩ ?_
  · simp [mkEnv, List.replicate]
  rintro i _ σ1 hi ⟨hF, s, hJ, rfl⟩
  simp [mkEnv, List.replicate]
  by_cases hlt : i < p.length
  rotate_left
  · have : i = p.length := by omega
    subst this
    rw [List.take_length] at hJ
    simp
    exact k _ _ hJ hF
  obtain ⟨b, hb⟩ := nth_lt hlt
  have hb' := nth_get hb
  have hpush := joinB_push hb'
  have es : IntKind.i64.wrap ((i : Int) + 1) = (i : Int) + 1 := by rw [wrap_small] <;> omega
  have hge := hF.len
  have hbm := lensB_mem (List.mem_of_getElem? hb')
  have hjl : lensB (joinB (p.take i)) ≤ lensB p := Nat.le_trans (joinB_lens _) (lensB_take p i)
  have hjn : (joinB (p.take i)).length ≤ lensB (joinB (p.take i)) := by unfold lensB; omega
  obtain ⟨out, hout⟩ : ∃ out, joinB (p.take i) = out := ⟨_, rfl⟩
  rw [hout] at hpush hJ hjl hjn
  by_cases h0 : b.2 = []
  · have hst : joinStep out b = out := by unfold joinStep; rw [if_pos h0]
    simp [hlt, hb, hJ.glen, h0, es]
    exact forK_go _ hlt (by simp [mkEnv, List.replicate]) ⟨hF, s, by rw [hpush, hst]; exact hJ, rfl⟩
  obtain ⟨raws, hR⟩ := hJ
  have hJg : gpure .len [s] = some (.int .i64 out.length) := Jn.glen ⟨raws, hR⟩
  -- a new list, and a block more
  have hnew : ∃ t σ2 s' σ3, gimp (.append 1 8) [.slice σ1.length 0 0 1 (some 0), fints b.2] (σ1 ++ [.row false (gzeros [.int .i64 0] 0)]) = some (t, σ2) ∧ t.flat = true ∧ gimp (.append 2 32) [s, .slice σ2.length 0 1 2 (some 1)] (σ2 ++ [.row false [.bool b.1, t]]) = some (s', σ3) ∧ Jn σ.length σ3 s' (out ++ [b]) ∧ Fr σ.length σ σ3 := by
    obtain ⟨t, σ2, q1, q2, q3, q4, q5, q6, _⟩ := (Own.nil0 (n := σ1.length) (σ := σ1) (Nat.le_refl _)).append (by_ := 8) (x := fints b.2) (ys := b.2) (fun _ => rfl) (by simpa [flatMap_flatten] using gread_fsl (σ := σ1 ++ [.row false (gzeros [.int .i64 0] 0)]) (sz := 1) (es := b.2.map eint)) (by simp [glen]) (by simp) (by simp) (by simp; omega) (by decide)
    have ht : Own σ.length 1 eint σ2 t b.2 := by simpa using q2.weaken hge
    have hth : ∀ k, t.has k → σ1.length ≤ k := fun k hk => q2.has_ge hk
    have hF2 : Fr σ1.length σ1 σ2 := ((Fr.refl (Nat.le_refl _)).app _).trans q3
    have hR2 := hR.fr hF2
    have hdom : ∀ k, s.has k → k < σ1.length := fun k hk => hR.own.has_lt hk
    obtain ⟨s', σ3, z1, z2, z3, z4⟩ := hR2.push (e := b.1) ht (fun k hk hk' => by have := hdom k hk'; have := hth k hk; omega) (fun j r hr k hk hk' => by
      have hjd := get_dom hr
      obtain ⟨c, hc⟩ := get_lt (xs := out) (i := j) (by rw [← hR.len]; exact hjd)
      have := (hR.at_ j r c hr hc).2.1.has_lt hk
      have := hth k hk'
      omega) (by have := hF2.len; omega) (by omega)
    exact ⟨t, σ2, s', σ3, q1, ht.flat, z1, ⟨_, z2⟩, (hF.trans (hF2.mono hge)).trans z3⟩
  cases hm : out.length with
  | zero =>
    have hon : out = [] := List.length_eq_zero_iff.1 hm
    have hst : joinStep out b = out ++ [b] := by unfold joinStep; rw [if_neg h0, hon]; rfl
    obtain ⟨t, σ2, s', σ3, q1, q2, q3, q4, q5⟩ := hnew
    simp [hlt, hb, hJg, h0, hm, q1, fill_flat2, q2, bs2_agg, q3, es]
    exact forK_go _ hlt (by simp [mkEnv, List.replicate]) ⟨q5, s', by rw [hpush, hst]; exact q4, rfl⟩
  | succ m =>
    obtain ⟨c, hc⟩ := get_lt (xs := out) (i := m) (by omega)
    obtain ⟨r, hr, r1, r2, r3⟩ := hR.get hc
    have ew : IntKind.i64.wrap (m : Int) = m := by rw [wrap_small] <;> omega
    have hpos : (0 : Int) < (m : Int) + 1 := by omega
    obtain ⟨id, g1, g2, g3, g4⟩ := hR.own.get (fun _ => rfl) hr (k := .i64)
    have g40 := g4 0 (by omega)
    have g41 := g4 1 (by omega)
    simp at g40 g41
    by_cases hq : c.1 = b.1
    · have hst : joinStep out b = out.set m (c.1, c.2 ++ b.2) := by unfold joinStep; rw [if_neg h0, hm, Nat.add_sub_cancel, hc]; simp [hq]
      have hq2 : (r.1 == b.1) = true := by rw [r1]; simpa using hq
      have hcm := lensB_mem (List.mem_of_getElem? hc)
      have hid := hR.own.has_lt g1
      obtain ⟨rr1, rr2⟩ := (r2.fr (Fr.rfl'.app [.row false (gzeros [.int .i64 0] 0)])).read (fun _ => rfl)
      obtain ⟨t, σ2, q1, q2, q3, q4, q5, q6, _⟩ := (Own.nil0 (n := σ1.length) (σ := σ1) (Nat.le_refl _)).append (by_ := 8) (x := r.2) (ys := c.2) (fun _ => rfl) rr1 rr2 (by simp) (by simp) (by simp; omega) (by decide)
      obtain ⟨u, σ3, z1, z2, z3, z4, z5, z6, _⟩ := q2.append (by_ := 8) (x := fints b.2) (ys := b.2) (fun _ => rfl) (by simpa [flatMap_flatten] using gread_fsl (σ := σ2) (sz := 1) (es := b.2.map eint)) (by simp [glen]) (by simp) (by have := q3.len; omega) (by simp; omega) (by decide)
      have hF3 : Fr σ1.length σ1 σ3 := (((Fr.refl (Nat.le_refl _)).app _).trans q3).trans z3
      have hu : Own σ.length 1 eint σ3 u (c.2 ++ b.2) := by simpa using z2.weaken hge
      obtain ⟨id', σ4, y1, y2, y3, y4, y5⟩ := hR.grow (σ := σ3) hr hc hu (fun k hk _ => hF3.get k hk) (fun k hk => .inr (z2.has_ge hk))
      rw [g2] at y1
      cases y1
      have hg41 : ∀ τ, gload (.load 1 false) [.ptr id (m * 2 + 1)] (σ1 ++ τ) = some r.2 := fun τ => by rw [ld_app hid]; exact g41
      simp [hlt, hb, hJg, h0, hm, ew, hpos, g2, g40, hq2, hg41, q1, z1, y2, es]
      exact forK_go _ hlt (by simp [mkEnv, List.replicate]) ⟨(hF.trans (hF3.mono hge)).trans (y4 (by have := hF3.len; omega)), s, by rw [hpush, hst]; exact ⟨_, y3⟩, rfl⟩
    · have hst : joinStep out b = out ++ [b] := by unfold joinStep; rw [if_neg h0, hm, Nat.add_sub_cancel, hc]; simp [hq]
      have hq2 : (r.1 == b.1) = false := by rw [r1]; simpa using hq
      obtain ⟨t, σ2, s', σ3, q1, q2, q3, q4, q5⟩ := hnew
      simp [hlt, hb, hJg, h0, hm, ew, hpos, g2, g40, hq2, q1, fill_flat2, q2, bs2_agg, q3, es]
      exact forK_go _ hlt (by simp [mkEnv, List.replicate]) ⟨q5, s', by rw [hpush, hst]; exact q4, rfl⟩
theorem r_JoinF_ok {p : List Blk} {σ : GS} {Post : DV → GS → Prop} (hp : lensB p < 2 ^ 40) (h : Post (.tuple [fblks (joinP p).1, .int .i64 (joinP p).2]) σ) : GCall Try.prog F_skolemref03_Join [fblks p] σ Post := by
  have hlb := lensB_flat p
  have hc := closed_fblks (joinP p).1
  refine GCall.pure (r := .tuple [fblks (joinP p).1, .int .i64 (joinP p).2]) ?_ (by simp [DV.closed, closeds] at hc ⊢; exact hc) h
  refine gc_skolemref03_Join ?_
  simp [G_skolemref03_Join, genv0, List.replicate]
  refine r_Flat_ok hp ?_
  simp
  refine r_single_ok (by omega) ?_
  cases hs : singleS [] (flatB p) with
  | false =>
    simp [joinP, hs]
    exact ⟨.rfl', .tuple (.cons (.nils 2) (.cons (.same _) .nil))⟩
  | true =>
    by_cases c : (flatB p).length ≤ 1024
    · have c' : ¬ ((1024 : Int) < (flatB p).length) := by omega
      simp [c']
      refine r_Joined_ok hp fun s σ' hJ hF => ?_
      simp [joinP, hs, c]
      exact ⟨hF, .tuple (.cons (hJ.rd fun i hi => .inl hi) (.cons (.same _) .nil))⟩
    · have c' : ((1024 : Int) < (flatB p).length) := by omega
      simp [c', joinP, hs, c]
      exact ⟨.rfl', .tuple (.cons (.nils 2) (.cons (.same _) .nil))⟩
end Go.Gh
namespace Go.Gh
open Go.RowKit Go.Proofs
set_option linter.unusedVariables false
set_option linter.unusedSimpArgs false
set_option maxRecDepth 100000
/-- A cell of a live row is written. -/
theorem st_cell {σ : GS} {id k : Nat} {cs : List DV} {v : DV} (h : σ[id]? = some (.row false cs)) (hk : k < cs.length) (hv : v.flat = true) : gimp (.store 1) [.ptr id k, v] σ = some (.tuple [], σ.set id (.row false (cs.set k v))) := by
  simp only [gimp, h, cells_of_flat hv]
  rw [if_pos ⟨rfl, by show k + 1 ≤ cs.length; omega, by simp [hv]⟩, over_one hk]
/-- A call with one's own list, which nobody writes any more. -/
theorem own_call {α : Type} {P : Program} {f : FuncId} {n sz : Nat} {enc : α → List DV} {σ : GS} {s : DV} {xs : List α} {Post : DV → GS → Prop} (h : Own n sz enc σ s xs) (hc : ∀ x, (enc x).length = sz)
    (k : ∀ σ', (∀ j, ¬ s.has j → σ'[j]? = σ[j]?) → σ'.length = σ.length → GCall P f [.fsl sz (xs.map enc)] σ' Post) : GCall P f [s] σ Post :=
  GCall.frz (fun i => s.idOf == some i) (args' := [.fsl sz (xs.map enc)]) (.cons (h.rdF hc) .nil) (k _ (fun j hj => frz_off (h.idOf_has hj)) (frz_len _ _))
theorem own_fr {α : Type} {n sz : Nat} {enc : α → List DV} {σ σ' σ0 : GS} {s : DV} {xs : List α} (h : Own n sz enc σ s xs) (hF : Fr n σ0 σ) (h1 : ∀ j, ¬ s.has j → σ'[j]? = σ[j]?) (h2 : σ'.length = σ.length) : Fr n σ0 σ' :=
  ⟨by have := hF.len; omega, fun i hi => by rw [h1 i fun hh => by have := h.has_ge hh; omega]; exact hF.get i hi⟩
theorem p_joinedF_ok {p : List Blk} {σ : GS} {Post : DV → GS → Prop} (hp : lensB p < 2 ^ 40) (h : Post (fblks (joinB p)) σ) : GCall Try.prog F_prefix_joined [fblks p] σ Post :=
  GCall.pure (p_joined_ok hp fun s σ' hJ hF => ⟨hF, hJ.rd fun i hi => .inl hi⟩) (by simp) h
theorem r_JoinedF_ok {p : List Blk} {σ : GS} {Post : DV → GS → Prop} (hp : lensB p < 2 ^ 40) (h : Post (fblks (joinB p)) σ) : GCall Try.prog F_skolemref03_Joined [fblks p] σ Post :=
  GCall.pure (r_Joined_ok hp fun s σ' hJ hF => ⟨hF, hJ.rd fun i hi => .inl hi⟩) (by simp) h
/-- A block without some variables. -/
def lessB (vars : List Int) (b : Blk) : Blk := (b.1, b.2.filter fun v => !vars.contains v)
def lessP (p : List Blk) (vars : List Int) : List Blk × Int := if mayB p then (joinB (p.map (lessB vars)), 0) else ([], 2)
theorem lessB_lens (vars : List Int) : ∀ p : List Blk, lensB (p.map (lessB vars)) ≤ lensB p
  | [] => by simp
  | b :: p => by
    have := lessB_lens vars p
    have h1 := List.length_filter_le (fun v => !vars.contains v) b.2
    unfold lensB lessB at *
    simp only [List.map_cons, List.sum_cons, List.length_cons, List.length_map] at *
    omega
theorem p_Less1_ok {l : List Int} {E : List (Int × DV)} {id bx : Nat} {v : Int} {σ : GS} {Post : DV → GS → Prop} (hM : MpO kint σ id E) (hE : ∀ k, kget k E = if l.contains k then some (.bool true) else none) (hb : σ[bx]? = some (.row false [.map id])) (k : Post (.bool (l.contains v)) σ) : GCall Try.prog F_prefix_Less_1 [.int .i64 v, .ptr bx 0] σ Post := by
  refine gc_prefix_Less_1 ?_
  have l1 : gload (.load 1 false) [.ptr bx 0] σ = some (.map id) := by rw [ld_at hb]; rfl
  simp [G_prefix_Less_1, genv0, List.replicate, l1, look_set hM hE]
  simpa using k
/-- The heap of Less: the set of what goes, and where it lies. -/
structure LsH (n : Nat) (E : List (Int × DV)) (σ : GS) : Prop where
  len : n + 2 ≤ σ.length
  gm : MpO kint σ n E
  bx : σ[n + 1]? = some (.row false [.map n])
theorem LsH.fr {n : Nat} {E : List (Int × DV)} {σ σ' : GS} (h : LsH n E σ) (hf : Fr (n + 2) σ σ') : LsH n E σ' :=
  ⟨by have := h.len; have := hf.len; omega, h.gm.fit (hf.get _ (by omega)), (hf.get _ (by omega)).trans h.bx⟩
set_option maxHeartbeats 1000000 in
theorem p_Less_ok {p : List Blk} {vars : List Int} {σ : GS} {Post : DV → GS → Prop} (hp : lensB p < 2 ^ 40) (hv : vars.length < 2 ^ 60) (h : Post (.tuple [fblks (lessP p vars).1, .int .i64 (lessP p vars).2]) σ) : GCall Try.prog F_prefix_Less [fblks p, fints vars] σ Post := by
  have hlb := lensB_flat p
  have hc := closed_fblks (lessP p vars).1
  refine GCall.pure (r := .tuple [fblks (lessP p vars).1, .int .i64 (lessP p vars).2]) ?_ (by simp [DV.closed, closeds] at hc ⊢; exact hc) h
  refine gc_prefix_Less ?_
  simp [G_prefix_Less, genv0, List.replicate]
  refine p_May_ok hp ?_
  cases hm : mayB p with
  | false =>
    simp [lessP, hm]
    exact ⟨.rfl', .tuple (.cons (.nils 2) (.cons (.same _) .nil))⟩
  | true =>
  simp
  refine gfor vars.length (fun i e σ' => Fr σ.length σ σ' ∧ LsH σ.length (setK (vars.take i)) σ' ∧ e = mkEnv 44 [(0, fblks p), (6, .ptr (σ.length + 1) 0), (16, fints vars), (17, .int .i64 vars.length), (18, .int .i64 i)]) _ ?_ ⟨.app .rfl' _, ⟨by simp, ⟨by simp [setK], ([], 0), ⟨by simp [setK], by simp, by simp⟩, by simp [kenc, setK]⟩, by simp⟩, rfl⟩ ?_
  · simp [mkEnv, List.replicate]
  rintro i _ σ' hi ⟨hF, hH, rfl⟩
  simp [mkEnv, List.replicate]
  by_cases hlt : i < vars.length
  · obtain ⟨v, hv1⟩ := nth_lt hlt
    have es : IntKind.i64.wrap ((i : Int) + 1) = (i : Int) + 1 := by rw [wrap_small] <;> omega
    obtain ⟨o1, q1, q2⟩ := hH.gm.set (kt := .int .i64) v (.bool true)
    have hge := hH.len
    simp [hlt, hv1, ld_at hH.bx, q1, es]
    exact forK_go _ hlt (by simp [mkEnv, List.replicate]) ⟨hF.set (by omega) _, ⟨by simpa using hge, by rw [setK_push (nth_get hv1)]; exact q2, by rw [List.getElem?_set_ne (by omega)]; exact hH.bx⟩, rfl⟩
  have : i = vars.length := by omega
  subst this
  rw [List.take_length] at hH
  simp
  obtain ⟨E, hEe⟩ : ∃ E, setK vars = E := ⟨_, rfl⟩
  have hE : ∀ k, kget k E = if vars.contains k then some (.bool true) else none := fun k => by rw [← hEe]; exact setK_get _ _
  rw [hEe] at hH
  refine gfor p.length (fun i e σ2 => Fr σ.length σ σ2 ∧ LsH σ.length E σ2 ∧ ∃ s, Own (σ.length + 2) 2 eblk σ2 s ((p.take i).map (lessB vars)) ∧ e = mkEnv 44 [(6, .ptr (σ.length + 1) 0), (9, s), (25, fblks p), (26, .int .i64 p.length), (27, .int .i64 i)]) _ ?_ ⟨hF, hH, .nils, by simpa using Own.nil, rfl⟩ ?_
  · simp [mkEnv, List.replicate]
  clear hH hF hlt hi
  rintro i _ σ2 hi ⟨hF, hH, s, hO, rfl⟩
  have hge := hH.len
  simp [mkEnv, List.replicate]
  by_cases hlt : i < p.length
  rotate_left
  · have : i = p.length := by omega
    subst this
    rw [List.take_length] at hO
    simp
    refine own_call hO (fun _ => rfl) fun σ3 hs hl3 => p_joinedF_ok (Nat.lt_of_le_of_lt (lessB_lens vars p) hp) ?_
    simp [lessP, hm]
    exact ⟨own_fr (hO.weaken (by omega)) hF hs hl3, .same _⟩
  obtain ⟨b, hb⟩ := nth_lt hlt
  have hb' := nth_get hb
  have hbm := lensB_mem (List.mem_of_getElem? hb')
  have es : IntKind.i64.wrap ((i : Int) + 1) = (i : Int) + 1 := by rw [wrap_small] <;> omega
  simp [hlt, hb]
  refine clone_frz (n := σ2.length + 1) (by omega) (by simp) fun t σ3 hT hF3 hth hcap => ?_
  simp at hth
  simp
  have keep : ∀ σ4 : GS, (∀ j, ¬ t.has j → σ4[j]? = σ3[j]?) → ∀ j, j ≤ σ2.length → σ4[j]? = (σ2 ++ [.row false [.bool b.1, fints b.2]])[j]? := fun σ4 h4 j hj => by
    rw [h4 _ fun hh => by have := hth _ hh; omega, hF3.get _ (by simp; omega)]
  refine del_ok (pre := []) (p := fun v => vars.contains v) hT hcap (by omega) (fun x _ σ4 h4 K hK => ?_) fun σ4 h4 hl4 => ?_
  · have g4 : ∀ j, j < σ.length + 2 → σ4[j]? = σ2[j]? := fun j hj => by rw [keep σ4 h4 j (by omega), List.getElem?_append_left (by omega)]
    exact p_Less1_ok (hH.gm.fit (g4 _ (by omega))) hE ((g4 _ (by omega)).trans hH.bx) hK
  obtain ⟨ys, hys⟩ : ∃ ys, (b.2.filter fun v => !vars.contains v) = ys := ⟨_, rfl⟩
  have hles : lessB vars b = (b.1, ys) := by unfold lessB; rw [hys]
  rw [hys]
  have hrow : σ4[σ2.length]? = some (.row false [.bool b.1, fints b.2]) := by rw [keep σ4 h4 _ (Nat.le_refl _)]; simp
  have g4 : ∀ j, j < σ2.length → σ4[j]? = σ2[j]? := fun j hj => by rw [keep σ4 h4 j (by omega), List.getElem?_append_left (by omega)]
  have hl3 := hF3.len
  simp at hl3
  have hsto := st_cell hrow (k := 1) (v := fints ys) (by simp) rfl
  obtain ⟨σ5, hσ5⟩ : ∃ σ5, σ4.set σ2.length (.row false [.bool b.1, fints ys]) = σ5 := ⟨_, rfl⟩
  simp only [List.set_cons_succ, List.set_cons_zero] at hsto
  rw [hσ5] at hsto
  have hrow5 : σ5[σ2.length]? = some (.row false [.bool b.1, fints ys]) := by rw [← hσ5, List.getElem?_set_self (by omega)]
  have hl5 : σ5.length = σ3.length := by rw [← hσ5]; simp; exact hl4
  have g5 : ∀ j, j < σ2.length → σ5[j]? = σ2[j]? := fun j hj => by rw [← hσ5, List.getElem?_set_ne (by omega)]; exact g4 j hj
  have F5 : Fr (σ.length + 2) σ2 σ5 := ⟨by omega, fun j hj => g5 j (by omega)⟩
  have hO5 := hO.fit (σ' := σ5) fun j hj => g5 j (hO.has_lt hj)
  obtain ⟨s', σ6, q1, q2, q3, q4, q5, q6⟩ := hO5.push (by_ := 32) (b.1, ys) (fun _ => rfl) (by simp) (by omega) (by simp; omega) (by decide)
  have hag : gload (.load 2 true) [.ptr σ2.length 0] σ5 = some (.agg [.bool b.1, fints ys]) := by rw [ld_agg hrow5]; rfl
  simp [hsto, hag, bs2_agg, q1, es]
  refine forK_go _ hlt (by simp [mkEnv, List.replicate]) ⟨hF.trans ((F5.trans q3).mono (by omega)), hH.fr (F5.trans q3), s', by rw [take_get hb', List.map_append, List.map_singleton, hles]; exact q2, rfl⟩
end Go.Gh
namespace Go.Gh
open Go.RowKit Go.Proofs
set_option linter.unusedVariables false
set_option linter.unusedSimpArgs false
set_option maxRecDepth 100000
theorem Rd.frzAll {n : Nat} {σ : GS} {s r : DV} (h : Rd σ (fun i => n ≤ i) s r) : Rd (frz (fun i => decide (n ≤ i)) σ) (RO (frz (fun i => decide (n ≤ i)) σ)) s r := by
  refine Rd.mono (fun id ro cs hok hs => ?_) h
  have := frz_row (S := fun i => decide (n ≤ i)) hs (by simpa using hok)
  exact ⟨fun r2 c2 h2 => by rw [this] at h2; cases h2; rfl, true, this⟩
/-- A call with an object of which nobody writes a part any more. -/
theorem rd_call {P : Program} {f : FuncId} {n : Nat} {σ σ0 : GS} {s r : DV} {Post : DV → GS → Prop} (h : Rd σ (fun i => n ≤ i) s r) (hF : Fr n σ0 σ)
    (k : ∀ σ', Fr n σ0 σ' → Fr n σ σ' → GCall P f [r] σ' Post) : GCall P f [s] σ Post := by
  have hg : ∀ i, i < n → (frz (fun i => decide (n ≤ i)) σ)[i]? = σ[i]? := fun i hi => frz_off (by simpa using hi)
  have hl := hF.len
  exact GCall.frz (fun i => decide (n ≤ i)) (args' := [r]) (.cons h.frzAll .nil) (k _ ⟨by rw [frz_len]; exact hl, fun i hi => (hg i hi).trans (hF.get i hi)⟩ ⟨by rw [frz_len]; exact hl, hg⟩)
theorem fill_one {z0 z1 a : DV} (ha : a.flat = true) : gfill [(0, 1)] [z0, z1] [a] = some [a, z1] := by simp [gfill, cells_of_flat ha, over]
set_option maxHeartbeats 1000000 in
theorem r_Less_ok {p : List Blk} {vars : List Int} {σ : GS} {Post : DV → GS → Prop} (hp : lensB p < 2 ^ 40) (hv : vars.length < 2 ^ 60) (h : Post (.tuple [fblks (lessP p vars).1, .int .i64 (lessP p vars).2]) σ) : GCall Try.prog F_skolemref03_Less [fblks p, fints vars] σ Post := by
  have hlb := lensB_flat p
  have hc := closed_fblks (lessP p vars).1
  refine GCall.pure (r := .tuple [fblks (lessP p vars).1, .int .i64 (lessP p vars).2]) ?_ (by simp [DV.closed, closeds] at hc ⊢; exact hc) h
  refine gc_skolemref03_Less ?_
  simp [G_skolemref03_Less, genv0, List.replicate]
  refine r_May_ok hp ?_
  cases hm : mayB p with
  | false =>
    simp [lessP, hm]
    exact ⟨.rfl', .tuple (.cons (.nils 2) (.cons (.same _) .nil))⟩
  | true =>
  simp
  refine gfor p.length (fun i e σ2 => Fr σ.length σ σ2 ∧ ∃ s, Jn σ.length σ2 s ((p.take i).map (lessB vars)) ∧ e = mkEnv 65 [(0, fblks p), (1, fints vars), (6, s), (7, .int .i64 i)]) _ ?_ ⟨.rfl', .nils, by simpa using Jn.nil, rfl⟩ ?_
  · simp [mkEnv, List.replicate]
  rintro i _ σ1 hi ⟨hF, s, hJ, rfl⟩
  have hge := hF.len
  simp [mkEnv, List.replicate]
  by_cases hlt : i < p.length
  rotate_left
  · have : i = p.length := by omega
    subst this
    rw [List.take_length] at hJ
    simp
    refine rd_call (hJ.rd fun _ h => h) hF fun σ3 hF3 _ => r_JoinedF_ok (Nat.lt_of_le_of_lt (lessB_lens vars p) hp) ?_
    simp [lessP, hm]
    exact ⟨hF3, .same _⟩
  obtain ⟨b, hb⟩ := nth_lt hlt
  have hb' := nth_get hb
  have hbm := lensB_mem (List.mem_of_getElem? hb')
  have es : IntKind.i64.wrap ((i : Int) + 1) = (i : Int) + 1 := by rw [wrap_small] <;> omega
  obtain ⟨P, hP⟩ : ∃ P : Int → Bool, (fun v => !vars.contains v) = P := ⟨_, rfl⟩
  have hPv : ∀ v, vars.contains v = !P v := fun v => by rw [← hP]; simp
  simp [hlt, hb, fill_one]
  refine gfor b.2.length (fun j e σ2 => Fr σ1.length σ1 σ2 ∧ ∃ t, σ2[σ1.length]? = some (.row false [.bool b.1, t]) ∧ Own (σ1.length + 1) 1 eint σ2 t ((b.2.take j).filter P) ∧ e = mkEnv 65 [(0, fblks p), (1, fints vars), (6, s), (7, .int .i64 i), (8, .ptr σ1.length 0), (9, .int .i64 j)]) _ ?_ ⟨.app .rfl' _, .nils, by simp, by simpa using Own.nil, rfl⟩ ?_
  · simp [mkEnv, List.replicate]
  rintro j _ σ2 hj ⟨hF2, t, hbx, hT, rfl⟩
  have hge2 : σ1.length + 1 ≤ σ2.length := get_dom hbx
  simp [mkEnv, List.replicate, hb]
  by_cases hjl : j < b.2.length
  · obtain ⟨y, hy⟩ := nth_lt hjl
    have hy' := nth_get hy
    have es3 : IntKind.i64.wrap ((j : Int) + 1) = (j : Int) + 1 := by rw [wrap_small] <;> omega
    simp [hjl, hy, hb]
    refine r_Has_ok hv ?_
    rw [hPv]
    cases hq : P y with
    | false =>
      simp [es3]
      exact forK_go _ hjl (by simp [mkEnv, List.replicate]) ⟨hF2, t, hbx, by rw [take_get hy', List.filter_append]; simpa [hq] using hT, rfl⟩
    | true =>
      have hfl := List.length_filter_le P (b.2.take j)
      rw [List.length_take] at hfl
      obtain ⟨t', σ3, q1, q2, q3, q4, q5, q6⟩ := hT.push (by_ := 8) y (fun _ => rfl) (by simp) hge2 (by omega) (by decide)
      have hbx3 : σ3[σ1.length]? = some (.row false [.bool b.1, t]) := by rw [q3.get _ (by omega)]; exact hbx
      have hsto := st_cell hbx3 (k := 1) (v := t') (by simp) q2.flat
      simp only [List.set_cons_succ, List.set_cons_zero] at hsto
      have hld : gload (.load 1 false) [.ptr σ1.length 1] σ2 = some t := by rw [ld_at hbx]; rfl
      simp [hld, hb, hy, q1, hsto, es3]
      refine forK_go _ hjl (by simp [mkEnv, List.replicate]) ⟨(hF2.trans (q3.mono (by omega))).set (by omega) _, t', by rw [List.getElem?_set_self (get_dom hbx3)], ?_, rfl⟩
      rw [take_get hy', List.filter_append, show [y].filter P = [y] by simp [hq]]
      exact q2.fit fun k hk => List.getElem?_set_ne (by have := q2.has_ge hk; omega)
  have : j = b.2.length := by omega
  subst this
  rw [List.take_length] at hT
  obtain ⟨raws, hR⟩ := hJ
  have hR2 := hR.fr hF2
  have hdom : ∀ k, s.has k → k < σ1.length := fun k hk => hR.own.has_lt hk
  have hln : ((p.take i).map (lessB vars)).length = i := by simp; omega
  obtain ⟨s', σ3, z1, z2, z3, z4⟩ := hR2.push (e := b.1) (hT.weaken (m := σ.length) (by omega)) (fun k hk hk' => by have := hdom k hk'; have := hT.has_ge hk; omega) (fun j r hr k hk hk' => by
    have hjd := get_dom hr
    obtain ⟨c, hc⟩ := get_lt (xs := (p.take i).map (lessB vars)) (i := j) (by rw [← hR.len]; exact hjd)
    have := (hR.at_ j r c hr hc).2.1.has_lt hk
    have := hT.has_ge hk'
    omega) (by omega) (by rw [hln]; omega)
  have hag : gload (.load 2 true) [.ptr σ1.length 0] σ2 = some (.agg [.bool b.1, t]) := by rw [ld_agg hbx]; rfl
  simp [hag, bs2_agg, z1, es]
  refine forK_go _ hlt (by simp [mkEnv, List.replicate]) ⟨(hF.trans (hF2.mono hge)).trans z3, s', ?_, rfl⟩
  rw [take_get hb', List.map_append, List.map_singleton]
  rw [show lessB vars b = (b.1, b.2.filter P) by unfold lessB; rw [hP]]
  exact ⟨_, z2⟩
end Go.Gh
namespace Go.Gh
open Go.RowKit
set_option linter.unusedVariables false
set_option linter.unusedSimpArgs false
theorem singleS_nodup : ∀ {l seen : List Int}, singleS seen l = true → l.Nodup ∧ ∀ x ∈ l, x ∉ seen
  | [], seen, _ => ⟨List.nodup_nil, fun x h => by cases h⟩
  | y :: l, seen, h => by
    rw [singleS, Bool.and_eq_true, Bool.and_eq_true] at h
    obtain ⟨⟨h1, h2⟩, h3⟩ := h
    obtain ⟨i1, i2⟩ := singleS_nodup h3
    have h2' : y ∉ seen := by simpa using h2
    refine ⟨List.nodup_cons.2 ⟨fun hy => i2 y hy (by simp), i1⟩, fun x hx => ?_⟩
    rcases List.mem_cons.1 hx with rfl | hx
    · exact h2'
    · exact fun hs => i2 x hx (by simp [hs])
theorem sortZ_mem {l : List Int} {v : Int} : v ∈ sortZ l ↔ v ∈ l := List.mem_mergeSort
theorem sortZ_len (l : List Int) : (sortZ l).length = l.length := List.length_mergeSort _
end Go.Gh
namespace Go.Gh
open Go.RowKit
set_option linter.unusedVariables false
set_option linter.unusedSimpArgs false
/-- An ascending list with a number more. -/
def insZ : List Int → Int → List Int
  | [], n => [n]
  | x :: l, n => if n < x then n :: x :: l else x :: insZ l n
def putZ (l : List Int) (n : Int) : List Int := if l.contains n then l else insZ l n
theorem insZ_len : ∀ (l : List Int) (n : Int), (insZ l n).length = l.length + 1
  | [], n => rfl
  | x :: l, n => by rw [insZ]; split <;> simp [insZ_len l n]
theorem putZ_len (l : List Int) (n : Int) : (putZ l n).length ≤ l.length + 1 := by
  unfold putZ; split
  · omega
  · rw [insZ_len]; exact Nat.le_refl _
theorem mem_insZ {z : Int} : ∀ {l : List Int} {n : Int}, z ∈ insZ l n ↔ z = n ∨ z ∈ l
  | [], n => by simp [insZ]
  | x :: l, n => by
    rw [insZ]
    split
    · simp
    · rw [List.mem_cons, mem_insZ, List.mem_cons]
      constructor
      · rintro (h | h | h) <;> simp [h]
      · rintro (h | h | h) <;> simp [h]
theorem asc_insZ : ∀ {l : List Int} {n : Int}, l.Pairwise (· < ·) → n ∉ l → (insZ l n).Pairwise (· < ·)
  | [], n, _, _ => by simp [insZ]
  | x :: l, n, h, hn => by
    have h1 := List.pairwise_cons.1 h
    rw [insZ]
    split
    · refine List.pairwise_cons.2 ⟨fun z hz => ?_, h⟩
      rcases List.mem_cons.1 hz with rfl | hz
      · assumption
      · have := h1.1 z hz; omega
    · refine List.pairwise_cons.2 ⟨fun z hz => ?_, asc_insZ h1.2 fun hh => hn (List.mem_cons_of_mem _ hh)⟩
      rcases mem_insZ.1 hz with rfl | hz
      · have : z ≠ x := fun e => hn (by simp [e])
        omega
      · exact h1.1 z hz
theorem ascEq : ∀ {a b : List Int}, a.Pairwise (· < ·) → b.Pairwise (· < ·) → (∀ x, x ∈ a ↔ x ∈ b) → a = b
  | [], [], _, _, _ => rfl
  | [], y :: b, _, _, h => by have := (h y).2 (by simp); simp at this
  | x :: a, [], _, _, h => by have := (h x).1 (by simp); simp at this
  | x :: a, y :: b, ha, hb, h => by
    have ha1 := (List.pairwise_cons.1 ha).1
    have hb1 := (List.pairwise_cons.1 hb).1
    have hxy : x = y := by
      rcases List.mem_cons.1 ((h x).1 (by simp)) with e | e
      · exact e
      · rcases List.mem_cons.1 ((h y).2 (by simp)) with e' | e'
        · exact e'.symm
        · have := hb1 x e; have := ha1 y e'; omega
    subst hxy
    congr 1
    refine ascEq (List.pairwise_cons.1 ha).2 (List.pairwise_cons.1 hb).2 fun z => ⟨fun hz => ?_, fun hz => ?_⟩
    · rcases List.mem_cons.1 ((h z).1 (List.mem_cons_of_mem _ hz)) with e | e
      · have := ha1 z hz; omega
      · exact e
    · rcases List.mem_cons.1 ((h z).2 (List.mem_cons_of_mem _ hz)) with e | e
      · have := hb1 z hz; omega
      · exact e
theorem le_lt : ∀ {l : List Int}, l.Pairwise (· ≤ ·) → l.Nodup → l.Pairwise (· < ·)
  | [], _, _ => .nil
  | x :: l, h, hn => by
    have h1 := List.pairwise_cons.1 h
    have h2 := List.nodup_cons.1 hn
    refine List.pairwise_cons.2 ⟨fun z hz => ?_, le_lt h1.2 h2.2⟩
    have := h1.1 z hz
    have : z ≠ x := fun e => h2.1 (by rw [← e]; exact hz)
    omega
theorem sortZ_asc {l : List Int} (h : l.Nodup) : (sortZ l).Pairwise (· < ·) := by
  refine le_lt ?_ ((List.mergeSort_perm _ _).nodup_iff.2 h)
  have := List.pairwise_mergeSort (le := fun x y : Int => decide (x ≤ y)) (fun a b c h1 h2 => by simp at *; omega) (fun a b => by simp; omega) l
  exact this.imp fun h => by simpa using h
theorem sort_put {fr : List Int} {n : Int} (h : fr.Nodup) (hn : n ∉ fr) : sortZ (fr ++ [n]) = insZ (sortZ fr) n := by
  refine ascEq (sortZ_asc ?_) (asc_insZ (sortZ_asc h) (by rw [sortZ_mem]; exact hn)) fun z => ?_
  · rw [List.nodup_append]
    exact ⟨h, by simp, fun a ha b hb => by simp at hb; subst hb; exact fun e => hn (by rw [← e]; exact ha)⟩
  · rw [sortZ_mem, mem_insZ, sortZ_mem]; simp [or_comm]
/-- The variables of clauses that are in no block, as they come. -/
def freeStep (F fr : List Int) (x : Int) : List Int := if F.contains (absW x) || fr.contains (absW x) then fr else fr ++ [absW x]
def freeC (F fr c : List Int) : List Int := c.foldl (freeStep F) fr
def freeL (F : List Int) (cls : List (List Int)) : List Int := cls.foldl (freeC F) []
/-- The same, ascending. -/
def putStep (F fr : List Int) (x : Int) : List Int := if F.contains (absW x) then fr else putZ fr (absW x)
def putC (F fr c : List Int) : List Int := c.foldl (putStep F) fr
def putL (F : List Int) (cls : List (List Int)) : List Int := cls.foldl (putC F) []
theorem freeStep_nodup {F fr : List Int} (x : Int) (h : fr.Nodup) : (freeStep F fr x).Nodup := by
  unfold freeStep
  split
  · exact h
  · rename_i hc
    have : absW x ∉ fr := by simp at hc; exact hc.2
    rw [List.nodup_append]
    exact ⟨h, by simp, fun a ha b hb => by simp at hb; subst hb; exact fun e => this (by rw [← e]; exact ha)⟩
theorem freeStep_put {F fr : List Int} (x : Int) (h : fr.Nodup) : sortZ (freeStep F fr x) = putStep F (sortZ fr) x := by
  unfold freeStep putStep putZ
  by_cases h1 : F.contains (absW x) = true
  · rw [if_pos (by rw [h1]; rfl), if_pos h1]
  · have h1' : F.contains (absW x) = false := by simpa using h1
    have hs : (sortZ fr).contains (absW x) = fr.contains (absW x) := by
      apply Bool.eq_iff_iff.2
      rw [List.contains_iff_mem, List.contains_iff_mem, sortZ_mem]
    rw [h1', Bool.false_or, hs, if_neg (show ¬ (false = true) by simp)]
    by_cases h2 : fr.contains (absW x) = true
    · rw [if_pos h2, if_pos h2]
    · rw [if_neg h2, if_neg h2, sort_put h (by simpa using h2)]
theorem freeC_put {F : List Int} : ∀ (c : List Int) {fr : List Int}, fr.Nodup → sortZ (freeC F fr c) = putC F (sortZ fr) c ∧ (freeC F fr c).Nodup
  | [], fr, h => ⟨rfl, h⟩
  | x :: c, fr, h => by
    have ih := freeC_put (F := F) c (freeStep_nodup (F := F) x h)
    unfold freeC putC at *
    rw [List.foldl_cons, List.foldl_cons, ← freeStep_put x h]
    exact ih
theorem freeLs_put {F : List Int} : ∀ (l : List (List Int)) {fr : List Int}, fr.Nodup → sortZ (l.foldl (freeC F) fr) = l.foldl (putC F) (sortZ fr) ∧ (l.foldl (freeC F) fr).Nodup
  | [], fr, h => ⟨rfl, h⟩
  | c :: l, fr, h => by
    obtain ⟨h1, h2⟩ := freeC_put (F := F) c h
    have ih := freeLs_put (F := F) l h2
    rw [List.foldl_cons, List.foldl_cons, ← h1]
    exact ih
theorem freeL_put (F : List Int) (cls : List (List Int)) : sortZ (freeL F cls) = putL F cls := by
  have := (freeLs_put (F := F) cls (fr := []) .nil).1
  unfold freeL putL
  rw [this]
  have e : sortZ [] = [] := by simp [sortZ]
  rw [e]
theorem freeStep_len (F fr : List Int) (x : Int) : (freeStep F fr x).length ≤ fr.length + 1 := by
  unfold freeStep; split <;> simp
theorem freeC_len (F : List Int) : ∀ (c fr : List Int), (freeC F fr c).length ≤ fr.length + c.length
  | [], fr => by simp [freeC]
  | x :: c, fr => by
    have h1 := freeC_len F c (freeStep F fr x)
    have h2 := freeStep_len F fr x
    unfold freeC at *
    rw [List.foldl_cons, List.length_cons]; omega
theorem freeLs_len (F : List Int) : ∀ (l : List (List Int)) (fr : List Int), (l.foldl (freeC F) fr).length ≤ fr.length + sumL l
  | [], fr => by simp [sumL]
  | c :: l, fr => by
    have h1 := freeLs_len F l (freeC F fr c)
    have h2 := freeC_len F c fr
    rw [List.foldl_cons]
    simp only [sumL, List.map_cons, List.sum_cons] at *; omega
theorem freeL_len (F : List Int) (cls : List (List Int)) : (freeL F cls).length ≤ sumL cls := by simpa [freeL] using freeLs_len F cls []
theorem freeL_push {F : List Int} {cls : List (List Int)} {i : Nat} {c : List Int} (h : cls[i]? = some c) : freeL F (cls.take (i + 1)) = freeC F (freeL F (cls.take i)) c := by
  unfold freeL; rw [take_get h, List.foldl_append]; rfl
theorem freeC_push {F fr c : List Int} {j : Nat} {x : Int} (h : c[j]? = some x) : freeC F fr (c.take (j + 1)) = freeStep F (freeC F fr (c.take j)) x := by
  unfold freeC; rw [take_get h, List.foldl_append]; rfl
theorem putL_push {F : List Int} {cls : List (List Int)} {i : Nat} {c : List Int} (h : cls[i]? = some c) : putL F (cls.take (i + 1)) = putC F (putL F (cls.take i)) c := by
  unfold putL; rw [take_get h, List.foldl_append]; rfl
theorem putC_push {F fr c : List Int} {j : Nat} {x : Int} (h : c[j]? = some x) : putC F fr (c.take (j + 1)) = putStep F (putC F fr (c.take j)) x := by
  unfold putC; rw [take_get h, List.foldl_append]; rfl
theorem freeL_part {F : List Int} {cls : List (List Int)} {i j : Nat} {c : List Int} (h : cls[i]? = some c) : (freeC F (freeL F (cls.take i)) (c.take j)).length ≤ sumL cls := by
  have h1 := freeC_len F (c.take j) (freeL F (cls.take i))
  have h2 := freeL_len F (cls.take i)
  have h3 := sumL_push h
  have h4 := sumL_take cls (i + 1)
  rw [List.length_take] at h1
  omega
/-- A prefix with a block of free variables, as the program makes it and as the reference does. -/
def atB (p : List Blk) : Nat := match p with | b :: _ => if b.1 then 1 else 0 | [] => 0
def insB (p : List Blk) (fr : List Int) : List Blk := p.take (atB p) ++ (true, fr) :: p.drop (atB p)
def refB (p : List Blk) (fr : List Int) : List Blk := match p with | b :: q => if b.1 then (true, b.2 ++ fr) :: q else (true, fr) :: b :: q | [] => [(true, fr)]
theorem insB_lens (p : List Blk) (fr : List Int) : lensB (insB p fr) = lensB p + 1 + fr.length := by
  have e : lensB p = lensB (p.take (atB p) ++ p.drop (atB p)) := by rw [List.take_append_drop]
  rw [e]; unfold lensB insB
  simp only [List.length_append, List.length_cons, List.map_append, List.map_cons, List.sum_append, List.sum_cons]; omega
theorem refB_lens (p : List Blk) (fr : List Int) : lensB (refB p fr) ≤ lensB p + 1 + fr.length := by
  cases p with
  | nil => simp [lensB, refB]
  | cons b p =>
    obtain ⟨b1, b2⟩ := b
    cases b1 <;> simp [refB, lensB] <;> omega
theorem join_ins {p : List Blk} {fr : List Int} (h : mayB p = true) : joinB (insB p fr) = joinB (refB p fr) := by
  cases p with
  | nil => rfl
  | cons b p =>
    obtain ⟨b1, b2⟩ := b
    cases b1 with
    | false => rfl
    | true =>
      have h1 := (mayB_parts h).1
      have hne : b2 ≠ [] := by intro e; subst e; simp [altB] at h1
      show joinB ((true, b2) :: (true, fr) :: p) = joinB ((true, b2 ++ fr) :: p)
      unfold joinB
      rw [List.foldl_cons, List.foldl_cons, List.foldl_cons]
      congr 1
      by_cases hf : fr = []
      · subst hf; simp [joinStep, hne]
      · simp [joinStep, hne, hf]
def closeP (q : QbfP) : QbfP × Int := if mayB q.pre && cnfB q.cls then (if (flatB q.pre).length + (freeL (flatB q.pre) q.cls).length ≤ 1024 then (⟨joinB (insB q.pre (sortZ (freeL (flatB q.pre) q.cls))), q.cls⟩, 0) else (⟨[], []⟩, 3)) else (⟨[], []⟩, 2)
end Go.Gh
namespace Go.Gh
open Go.RowKit Go.Proofs
set_option linter.unusedVariables false
set_option linter.unusedSimpArgs false
set_option maxRecDepth 100000
theorem insZ_step {x n : Int} {l : List Int} : insZ (x :: l) n = if n < x then n :: x :: l else x :: insZ l n := rfl
set_option maxHeartbeats 1000000 in
theorem r_Put_ok {l : List Int} {n : Int} {σ : GS} {Post : DV → GS → Prop} (hl : l.length < 2 ^ 40) (h : Post (fints (putZ l n)) σ) : GCall Try.prog F_skolemref03_Put [fints l, .int .i64 n] σ Post := by
  refine GCall.pure (r := fints (putZ l n)) ?_ (by simp) h
  refine gc_skolemref03_Put ?_
  simp [G_skolemref03_Put, genv0, List.replicate]
  refine gfor l.length (fun i e σ' => Fr σ.length σ σ' ∧ l.contains n = (l.drop i).contains n ∧ ∃ s out done, Own σ.length 1 eint σ' s out ∧ out.length ≤ i + (if done = true then 1 else 0) ∧ insZ l n = out ++ (if done = true then l.drop i else insZ (l.drop i) n) ∧ e = mkEnv 49 [(0, fints l), (1, .int .i64 n), (5, s), (6, .bool done), (7, .int .i64 i)]) _ ?_ ⟨.rfl', by simp, .nils, [], false, .nil, by simp, by simp, rfl⟩ ?_
  · simp [mkEnv, List.replicate]
  rintro i _ σ1 hi ⟨hF, hI, s, out, done, hO, hle, hE, rfl⟩
  have hge := hF.len
  simp [mkEnv, List.replicate]
  by_cases hlt : i < l.length
  rotate_left
  · have : i = l.length := by omega
    subst this
    rw [List.drop_length] at hE hI
    have hc : l.contains n = false := by rw [hI]; rfl
    have hput : putZ l n = insZ l n := by unfold putZ; rw [hc]; rfl
    cases done with
    | true =>
      have hE' : insZ l n = out := by simpa using hE
      simp
      rw [hput, hE']
      exact ⟨hF, hO.rd (fun _ => rfl) fun i hi => .inl hi⟩
    | false =>
      have hE' : insZ l n = out ++ [n] := by simpa [insZ] using hE
      obtain ⟨s', σ2, q1, q2, q3, q4, q5, q6⟩ := hO.push (by_ := 8) n (fun _ => rfl) (by simp) hge (by simp at hle; omega) (by decide)
      simp [q1]
      rw [hput, hE']
      exact ⟨hF.trans q3, q2.rd (fun _ => rfl) fun i hi => .inl hi⟩
  obtain ⟨x, hx⟩ := nth_lt hlt
  have hx' := nth_get hx
  rw [drop_get hx', List.contains_cons] at hI
  have es : IntKind.i64.wrap ((i : Int) + 1) = (i : Int) + 1 := by rw [wrap_small] <;> omega
  by_cases he : x = n
  · have hput : putZ l n = l := by unfold putZ; rw [hI, he]; simp
    simp [hlt, hx, he]
    rw [hput]
    exact ⟨hF, .same _⟩
  have hxn : (n == x) = false := by simpa using fun e => he e.symm
  rw [hxn, Bool.false_or] at hI
  cases done with
  | true =>
    rw [if_pos rfl, drop_get hx'] at hE
    obtain ⟨s', σ2, q1, q2, q3, q4, q5, q6⟩ := hO.push (by_ := 8) x (fun _ => rfl) (by simp) hge (by simp at hle; omega) (by decide)
    simp [hlt, hx, he, q1, es]
    exact forK_go _ hlt (by simp [mkEnv, List.replicate]) ⟨hF.trans q3, hI, s', out ++ [x], true, q2, by simp at hle ⊢; omega, by rw [hE]; simp, rfl⟩
  | false =>
    rw [if_neg (by simp), drop_get hx', insZ_step] at hE
    by_cases hnx : n < x
    · rw [if_pos hnx] at hE
      obtain ⟨s', σ2, q1, q2, q3, q4, q5, q6⟩ := hO.push (by_ := 8) n (fun _ => rfl) (by simp) hge (by simp at hle; omega) (by decide)
      obtain ⟨s2, σ3, z1, z2, z3, z4, z5, z6⟩ := q2.push (by_ := 8) x (fun _ => rfl) (by simp) (by omega) (by simp at hle ⊢; omega) (by decide)
      simp [hlt, hx, he, hnx, q1, z1, es]
      exact forK_go _ hlt (by simp [mkEnv, List.replicate]) ⟨(hF.trans q3).trans z3, hI, s2, out ++ [n] ++ [x], true, z2, by simp at hle ⊢; omega, by rw [hE]; simp, rfl⟩
    · rw [if_neg hnx] at hE
      obtain ⟨s', σ2, q1, q2, q3, q4, q5, q6⟩ := hO.push (by_ := 8) x (fun _ => rfl) (by simp) hge (by simp at hle; omega) (by decide)
      simp [hlt, hx, he, hnx, q1, es]
      exact forK_go _ hlt (by simp [mkEnv, List.replicate]) ⟨hF.trans q3, hI, s', out ++ [x], false, q2, by simp at hle ⊢; omega, by rw [hE]; simp, rfl⟩
end Go.Gh
namespace Go.Gh
open Go.RowKit Go.Proofs
set_option linter.unusedVariables false
set_option linter.unusedSimpArgs false
set_option maxRecDepth 100000
theorem absS {x : Int} (h : litOk x = true) : (if x < 0 then IntKind.i64.wrap (-x) else x) = absW x := by
  simp only [litOk, Bool.and_eq_true, decide_eq_true_eq] at h
  exact absW_eq (by omega)
theorem r_Normal_ok {l : List Int} {σ : GS} {Post : DV → GS → Prop} (hl : l.length < 2 ^ 50) (h : Post (.bool (nrmS 0 l)) σ) : GCall Try.prog F_skolemref03_Normal [fints l] σ Post := by
  refine gc_skolemref03_Normal ?_
  simp [G_skolemref03_Normal, genv0, List.replicate]
  refine gfor l.length (fun i e σ' => σ' = σ ∧ (∃ last, nrmS 0 l = nrmS last (l.drop i) ∧ (i = 0 → last = 0) ∧ ∀ j, j + 1 = i → ∃ y, l[j]? = some y ∧ last = absW y ∧ litOk y = true) ∧ e = mkEnv 47 [(0, fints l), (3, .int .i64 i)]) _ ?_ ⟨rfl, ⟨0, by simp, fun _ => rfl, fun j h => by omega⟩, rfl⟩ ?_
  · simp [mkEnv, List.replicate]
  rintro i _ σ hi ⟨rfl, ⟨last, hI, hl0, hl1⟩, rfl⟩
  simp [mkEnv, List.replicate]
  by_cases hlt : i < l.length
  · obtain ⟨y, hy⟩ := nth_lt hlt
    have hy' := nth_get hy
    unfold nrmS at hI
    rw [drop_get hy', nrmG] at hI
    have es : IntKind.i64.wrap ((i : Int) + 1) = (i : Int) + 1 := by rw [wrap_small] <;> omega
    by_cases a1 : y = 0
    · have hn : nrmS 0 l = false := by unfold nrmS; rw [hI]; simp [litOk, a1]
      rw [hn] at h
      simp [hlt, hy, a1]
      exact h
    by_cases a2 : y < -65536
    · have hn : nrmS 0 l = false := by unfold nrmS; rw [hI]; simp [litOk, show ¬ (-65536 ≤ y) by omega]
      rw [hn] at h
      simp [hlt, hy, a1, a2]
      exact h
    by_cases a3 : 65536 < y
    · have hn : nrmS 0 l = false := by unfold nrmS; rw [hI]; simp [litOk, show ¬ (y ≤ 65536) by omega]
      rw [hn] at h
      simp [hlt, hy, a1, a2, a3]
      exact h
    have hok : litOk y = true := by simp [litOk, a1]; omega
    have hpos := (litOk_abs hok).2
    simp [hlt, hy, a1, a2, a3]
    cases i with
    | zero =>
      have := hl0 rfl
      subst this
      simp [es]
      refine forK_go _ hlt (by simp [mkEnv, List.replicate]) ⟨rfl, ⟨absW y, by unfold nrmS; rw [hI]; simp [hok, hpos], fun e => by omega, fun j hj => ?_⟩, rfl⟩
      have : j = 0 := by omega
      subst this; exact ⟨y, hy', rfl, hok⟩
    | succ i =>
      obtain ⟨z, hz, hlz, hzk⟩ := hl1 i rfl
      have hz' : nth l i = some z := hz
      have hge : (0 : Int) ≤ (i : Int) + 1 := by omega
      have hgt : (0 : Int) < (i : Int) + 1 := by omega
      have htn : ((i : Int) + 1).toNat = i + 1 := by omega
      have ew' : IntKind.i64.wrap (i : Int) = i := by rw [wrap_small] <;> omega
      have es2 : IntKind.i64.wrap ((i : Int) + 1 + 1) = (i : Int) + 1 + 1 := by rw [wrap_small] <;> omega
      simp [hge, hgt, htn, hy, ew', hz']
      refine r_Abs_ok ?_
      rw [absS hzk, ← hlz]
      simp [hge, htn, hy, ew', hz']
      refine r_Abs_ok ?_
      rw [absS hok]
      by_cases h4 : absW y ≤ last
      · have hn : nrmS 0 l = false := by unfold nrmS; rw [hI]; simp [show ¬ (last < absW y) by omega]
        rw [hn] at h
        simp [h4]
        exact h
      · simp [h4, es2]
        refine forK_go _ hlt (by simp [mkEnv, List.replicate]) ⟨rfl, ⟨absW y, by unfold nrmS; rw [hI]; simp [hok, show last < absW y by omega], fun e => by omega, fun j hj => ?_⟩, rfl⟩
        have : j = i + 1 := by omega
        subst this; exact ⟨y, hy', rfl, hok⟩
  · have : i = l.length := by omega
    subst this
    rw [List.drop_length] at hI
    have hn : nrmS 0 l = true := hI
    rw [hn] at h
    simp
    exact h
theorem r_Cnf_ok {l : List (List Int)} {σ : GS} {Post : DV → GS → Prop} (hl : lensC l < 2 ^ 40) (h : Post (.bool (cnfB l)) σ) : GCall Try.prog F_skolemref03_Cnf [fcls l] σ Post := by
  have hll := sumL_lens l
  refine gc_skolemref03_Cnf ?_
  simp [G_skolemref03_Cnf, genv0, List.replicate]
  refine gfor l.length (fun i e σ' => σ' = σ ∧ l.all (nrmS 0) = (l.drop i).all (nrmS 0) ∧ e = mkEnv 31 [(0, fcls l), (3, .int .i64 (sumL (l.take i))), (4, .int .i64 i)]) _ ?_ ⟨rfl, by simp, rfl⟩ ?_
  · simp [mkEnv, List.replicate, sumL]
  rintro i _ σ hi ⟨rfl, hI, rfl⟩
  simp [mkEnv, List.replicate]
  by_cases hlt : i < l.length
  · obtain ⟨c, hc⟩ := nth_lt hlt
    have hc' := nth_get hc
    have hcl := lensC_mem (List.mem_of_getElem? hc')
    have hsp := sumL_push hc'
    have hst := sumL_take l (i + 1)
    rw [drop_get hc', List.all_cons] at hI
    have es : IntKind.i64.wrap ((i : Int) + 1) = (i : Int) + 1 := by rw [wrap_small] <;> omega
    have es2 : IntKind.i64.wrap ((sumL (l.take i) : Int) + c.length) = (sumL (l.take (i + 1)) : Int) := by rw [hsp, wrap_small] <;> omega
    simp [hlt, hc, es2]
    refine r_Normal_ok (by omega) ?_
    cases hn : nrmS 0 c with
    | false =>
      have hn2 : cnfB l = false := by unfold cnfB; rw [hI, hn]; simp
      rw [hn2] at h
      simp
      exact h
    | true =>
      simp [es]
      exact forK_go _ hlt (by simp [mkEnv, List.replicate]) ⟨rfl, by rw [hI, hn]; simp, rfl⟩
  · have : i = l.length := by omega
    subst this
    rw [List.drop_length] at hI
    rw [List.take_length]
    unfold cnfB at h
    rw [hI] at h
    by_cases c1 : l.length ≤ 20000
    · have c1' : (l.length : Int) ≤ 20000 := by omega
      by_cases c2 : sumL l ≤ 200000
      · have c2' : (sumL l : Int) ≤ 200000 := by omega
        simp [c1', c2']
        simpa [c1, c2] using h
      · have c2' : ¬ (sumL l : Int) ≤ 200000 := by omega
        simp [c1', c2']
        simpa [c1, c2] using h
    · have c1' : ¬ (l.length : Int) ≤ 20000 := by omega
      simp [c1']
      simpa [c1] using h
set_option maxHeartbeats 1000000 in
theorem p_cnf_ok {l : List (List Int)} {f : FuncId} {pre caps : List DV} {g : Int → Bool} {σ : GS} {Post : DV → GS → Prop} (hl : lensC l < 2 ^ 40)
    (hf : ∀ (x : Int) (K : DV → GS → Prop), K (.bool (g x)) σ → GCall Try.prog f (pre ++ .int .i64 x :: caps) σ K) (h : Post (.bool (cnfG g l)) σ) : GCall Try.prog F_prefix_cnf [fcls l, .func f pre caps] σ Post := by
  have hll := sumL_lens l
  refine gc_prefix_cnf ?_
  by_cases c1 : l.length ≤ 20000
  rotate_left
  · have c1' : (20000 : Int) < l.length := by omega
    have hn : cnfG g l = false := by simp [cnfG, c1]
    rw [hn] at h
    simp [G_prefix_cnf, genv0, List.replicate, c1']
    exact h
  have c1' : ¬ ((20000 : Int) < l.length) := by omega
  simp [G_prefix_cnf, genv0, List.replicate, c1']
  refine gfor l.length (fun i e σ' => σ' = σ ∧ l.all (nrmG g 0) = (l.drop i).all (nrmG g 0) ∧ e = mkEnv 59 [(1, .func f pre caps), (5, .int .i64 (sumL (l.take i))), (14, fcls l), (15, .int .i64 l.length), (16, .int .i64 i)]) _ ?_ ⟨rfl, by simp, rfl⟩ ?_
  · simp [mkEnv, List.replicate, sumL]
  rintro i _ σ hi ⟨rfl, hI, rfl⟩
  simp [mkEnv, List.replicate]
  by_cases hlt : i < l.length
  rotate_left
  · have : i = l.length := by omega
    subst this
    rw [List.drop_length] at hI
    rw [List.take_length]
    unfold cnfG at h
    rw [hI] at h
    by_cases c2 : sumL l ≤ 200000
    · have c2' : (sumL l : Int) ≤ 200000 := by omega
      simp [c2']
      simpa [c1, c2] using h
    · have c2' : ¬ (sumL l : Int) ≤ 200000 := by omega
      simp [c2']
      simpa [c1, c2] using h
  obtain ⟨c, hc⟩ := nth_lt hlt
  have hc' := nth_get hc
  have hcl := lensC_mem (List.mem_of_getElem? hc')
  have hsp := sumL_push hc'
  have hst := sumL_take l (i + 1)
  rw [drop_get hc', List.all_cons] at hI
  have es : IntKind.i64.wrap ((i : Int) + 1) = (i : Int) + 1 := by rw [wrap_small] <;> omega
  have es2 : IntKind.i64.wrap ((sumL (l.take i) : Int) + c.length) = (sumL (l.take (i + 1)) : Int) := by rw [hsp, wrap_small] <;> omega
  have hbad : nrmG g 0 c = false → cnfG g l = false := fun e => by unfold cnfG; rw [hI, e]; simp
  simp [hlt, hc]
  refine gfor c.length (fun j e σ' => σ' = σ ∧ ∃ last, nrmG g 0 c = nrmG g last (c.drop j) ∧ e = mkEnv 59 [(1, .func f pre caps), (5, .int .i64 (sumL (l.take i))), (7, fints c), (8, .int .i64 last), (14, fcls l), (15, .int .i64 l.length), (16, .int .i64 i), (20, fints c), (21, .int .i64 c.length), (22, .int .i64 j)]) _ ?_ ⟨rfl, 0, rfl, rfl⟩ ?_
  · simp [mkEnv, List.replicate]
  rintro j _ σ hj ⟨rfl, last, hJ, rfl⟩
  simp [mkEnv, List.replicate]
  by_cases hjl : j < c.length
  rotate_left
  · have : j = c.length := by omega
    subst this
    rw [List.drop_length] at hJ
    simp [es, es2]
    exact forK_go _ hlt (by simp [mkEnv, List.replicate]) ⟨rfl, by rw [hI, hJ]; simp [nrmG], rfl⟩
  obtain ⟨y, hy⟩ := nth_lt hjl
  have hy' := nth_get hy
  rw [drop_get hy', nrmG] at hJ
  have es3 : IntKind.i64.wrap ((j : Int) + 1) = (j : Int) + 1 := by rw [wrap_small] <;> omega
  by_cases a1 : y = 0
  · rw [hbad (by rw [hJ]; simp [litOk, a1])] at h
    simp [hjl, hy, a1]
    exact h
  by_cases a2 : y < -65536
  · rw [hbad (by rw [hJ]; simp [litOk, show ¬ (-65536 ≤ y) by omega])] at h
    simp [hjl, hy, a1, a2]
    exact h
  by_cases a3 : 65536 < y
  · rw [hbad (by rw [hJ]; simp [litOk, show ¬ (y ≤ 65536) by omega])] at h
    simp [hjl, hy, a1, a2, a3]
    exact h
  have hok : litOk y = true := by simp [litOk, a1]; omega
  simp [hjl, hy, a1, a2, a3]
  refine p_abs_ok ?_
  by_cases a4 : absW y ≤ last
  · rw [hbad (by rw [hJ]; simp [show ¬ (last < absW y) by omega])] at h
    simp [a4]
    exact h
  simp [a4]
  refine p_abs_ok ?_
  simp
  refine hf _ _ ?_
  cases hg : g (absW y) with
  | false =>
    rw [hbad (by rw [hJ, hg]; simp)] at h
    simp
    exact h
  | true =>
    simp
    refine p_abs_ok ?_
    simp [es3]
    exact forK_go _ hjl (by simp [mkEnv, List.replicate]) ⟨rfl, absW y, by rw [hJ, hg]; simp [hok, show last < absW y by omega], rfl⟩
end Go.Gh
