/-
  Proved: SameDqbf tells two Dqbfs apart by every field, as the reference does, whatever the two are, and never panics (no condition).
  Part 5 of 6. Conditions: none. A verified frame that runs compiled texts over a ghost heap, the contracts of the functions that the statement reaches, and the plain law.
-/
import Derived.Test.YtgmmhhbmnfnloaaXS4
import Derived.Test.YtgmmhhbmnfnloaaProg
import Derived.KernelRfl
namespace Go.Gh
open Go.Proofs
theorem seatfollows : Try.prog.follows .mixedOrders = true := by kernel_rfl
abbrev F_slices_Insert_api_Block_api_Block : Nat := 45
abbrev F_slices_overlaps_api_Block : Nat := 71
abbrev F_slices_rotateRight_api_Block : Nat := 72
noncomputable abbrev G_slices_Insert_api_Block_api_Block : GFun := ⟨95, [(.tmp 6)], (.seq (.region [⟨0, ⟨(some 6), none, (.pure .id), [(.const .nils)]⟩, []⟩]) (.seq (.region [⟨0, ⟨(some 10), none, (.pure .id), [(.tmp 0)]⟩, []⟩, ⟨0, ⟨(some 11), none, (.pure .id), [(.tmp 1)]⟩, []⟩, ⟨0, ⟨(some 12), none, (.pure (.slice 2 true false false)), [(.tmp 10), (.tmp 11)]⟩, []⟩]) (.seq (.region [⟨0, ⟨(some 13), none, (.pure .id), [(.tmp 2)]⟩, []⟩, ⟨0, ⟨(some 14), none, (.pure .len), [(.tmp 13)]⟩, []⟩, ⟨0, ⟨(some 7), none, (.pure .id), [(.tmp 14)]⟩, []⟩]) (.seq (.seq (.region [⟨0, ⟨(some 15), none, (.pure .id), [(.tmp 7)]⟩, []⟩, ⟨0, ⟨(some 16), none, (.pure (.bin .eql .none)), [(.tmp 15), (.const (.int .i64 0))]⟩, []⟩]) (.cond (.tmp 16) (.seq (.region [⟨0, ⟨(some 17), none, (.pure .id), [(.tmp 0)]⟩, []⟩, ⟨0, ⟨(some 6), none, (.pure .id), [(.tmp 17)]⟩, []⟩]) .ret) .skip)) (.seq (.region [⟨0, ⟨(some 18), none, (.pure .id), [(.tmp 0)]⟩, []⟩, ⟨0, ⟨(some 19), none, (.pure .len), [(.tmp 18)]⟩, []⟩, ⟨0, ⟨(some 8), none, (.pure .id), [(.tmp 19)]⟩, []⟩]) (.seq (.seq (.region [⟨0, ⟨(some 20), none, (.pure .id), [(.tmp 1)]⟩, []⟩, ⟨0, ⟨(some 21), none, (.pure .id), [(.tmp 8)]⟩, []⟩, ⟨0, ⟨(some 22), none, (.pure (.bin .eql .none)), [(.tmp 20), (.tmp 21)]⟩, []⟩]) (.cond (.tmp 22) (.seq (.region [⟨0, ⟨(some 23), none, (.pure .id), [(.tmp 0)]⟩, []⟩, ⟨0, ⟨(some 24), none, (.pure .id), [(.tmp 2)]⟩, []⟩, ⟨0, ⟨(some 25), none, (.imp (.append 2 32)), [(.tmp 23), (.tmp 24)]⟩, []⟩, ⟨0, ⟨(some 6), none, (.pure .id), [(.tmp 25)]⟩, []⟩]) .ret) .skip)) (.seq (.seq (.region [⟨0, ⟨(some 26), none, (.pure .id), [(.tmp 8)]⟩, []⟩, ⟨0, ⟨(some 27), none, (.pure .id), [(.tmp 7)]⟩, []⟩, ⟨0, ⟨(some 28), none, (.pure (.bin .add .none)), [(.tmp 26), (.tmp 27)]⟩, []⟩, ⟨0, ⟨(some 29), none, (.pure .id), [(.tmp 0)]⟩, []⟩, ⟨0, ⟨(some 30), none, (.pure .cap), [(.tmp 29)]⟩, []⟩, ⟨0, ⟨(some 31), none, (.pure (.bin .gtr .none)), [(.tmp 28), (.tmp 30)]⟩, []⟩]) (.cond (.tmp 31) (.seq (.region [⟨0, ⟨(some 32), none, (.pure .id), [(.tmp 0)]⟩, []⟩, ⟨0, ⟨(some 33), none, (.pure .id), [(.tmp 1)]⟩, []⟩, ⟨0, ⟨(some 34), none, (.pure (.slice 2 false true false)), [(.tmp 32), (.tmp 33)]⟩, []⟩, ⟨0, ⟨(some 35), none, (.pure .id), [(.tmp 8)]⟩, []⟩, ⟨0, ⟨(some 36), none, (.pure .id), [(.tmp 7)]⟩, []⟩, ⟨0, ⟨(some 37), none, (.pure (.bin .add .none)), [(.tmp 35), (.tmp 36)]⟩, []⟩, ⟨0, ⟨(some 38), none, (.pure .id), [(.tmp 1)]⟩, []⟩, ⟨0, ⟨(some 39), none, (.pure (.bin .sub .none)), [(.tmp 37), (.tmp 38)]⟩, []⟩, ⟨0, ⟨(some 40), none, (.imp (.appendz 2 32 [(.bool false), .nils])), [(.tmp 34), (.tmp 39)]⟩, []⟩, ⟨0, ⟨(some 9), none, (.pure .id), [(.tmp 40)]⟩, []⟩]) (.seq (.region [⟨0, ⟨(some 41), none, (.pure .id), [(.tmp 9)]⟩, []⟩, ⟨0, ⟨(some 42), none, (.pure .id), [(.tmp 1)]⟩, []⟩, ⟨0, ⟨(some 43), none, (.pure (.slice 2 true false false)), [(.tmp 41), (.tmp 42)]⟩, []⟩, ⟨0, ⟨(some 44), none, (.pure .id), [(.tmp 2)]⟩, []⟩, ⟨0, ⟨(some 45), none, (.imp (.copy 2)), [(.tmp 43), (.tmp 44)]⟩, []⟩]) (.seq (.region [⟨0, ⟨(some 46), none, (.pure .id), [(.tmp 9)]⟩, []⟩, ⟨1, ⟨(some 47), none, (.pure .id), [(.tmp 1)]⟩, []⟩, ⟨2, ⟨(some 48), none, (.pure .id), [(.tmp 7)]⟩, []⟩, ⟨3, ⟨(some 49), none, (.pure (.bin .add .none)), [(.tmp 47), (.tmp 48)]⟩, []⟩, ⟨4, ⟨(some 50), none, (.pure (.slice 2 true false false)), [(.tmp 46), (.tmp 49)]⟩, []⟩, ⟨5, ⟨(some 51), none, (.pure .id), [(.tmp 0)]⟩, []⟩, ⟨6, ⟨(some 52), none, (.pure .id), [(.tmp 1)]⟩, []⟩, ⟨7, ⟨(some 53), none, (.pure (.slice 2 true false false)), [(.tmp 51), (.tmp 52)]⟩, []⟩, ⟨8, ⟨(some 54), none, (.imp (.copy 2)), [(.tmp 50), (.tmp 53)]⟩, []⟩]) (.seq (.region [⟨0, ⟨(some 55), none, (.pure .id), [(.tmp 9)]⟩, []⟩, ⟨0, ⟨(some 6), none, (.pure .id), [(.tmp 55)]⟩, []⟩]) .ret)))) .skip)) (.seq (.region [⟨0, ⟨(some 56), none, (.pure .id), [(.tmp 0)]⟩, []⟩, ⟨0, ⟨(some 57), none, (.pure .id), [(.tmp 8)]⟩, []⟩, ⟨0, ⟨(some 58), none, (.pure .id), [(.tmp 7)]⟩, []⟩, ⟨0, ⟨(some 59), none, (.pure (.bin .add .none)), [(.tmp 57), (.tmp 58)]⟩, []⟩, ⟨0, ⟨(some 60), none, (.pure (.slice 2 false true false)), [(.tmp 56), (.tmp 59)]⟩, []⟩, ⟨0, ⟨(some 0), none, (.pure .id), [(.tmp 60)]⟩, []⟩]) (.seq (.seq (.region [⟨0, ⟨(some 61), none, (.pure .id), [(.tmp 2)]⟩, []⟩, ⟨0, ⟨(some 62), none, (.pure .id), [(.tmp 0)]⟩, []⟩, ⟨0, ⟨(some 63), none, (.pure .id), [(.tmp 1)]⟩, []⟩, ⟨0, ⟨(some 64), none, (.pure .id), [(.tmp 7)]⟩, []⟩, ⟨0, ⟨(some 65), none, (.pure (.bin .add .none)), [(.tmp 63), (.tmp 64)]⟩, []⟩, ⟨0, ⟨(some 66), none, (.pure (.slice 2 true false false)), [(.tmp 62), (.tmp 65)]⟩, []⟩, ⟨0, ⟨(some 67), none, (.xcall F_slices_overlaps_api_Block), [(.tmp 61), (.tmp 66)]⟩, []⟩, ⟨0, ⟨(some 68), none, (.pure (.un .not)), [(.tmp 67)]⟩, []⟩]) (.cond (.tmp 68) (.seq (.region [⟨0, ⟨(some 69), none, (.pure .id), [(.tmp 0)]⟩, []⟩, ⟨1, ⟨(some 70), none, (.pure .id), [(.tmp 1)]⟩, []⟩, ⟨2, ⟨(some 71), none, (.pure .id), [(.tmp 7)]⟩, []⟩, ⟨3, ⟨(some 72), none, (.pure (.bin .add .none)), [(.tmp 70), (.tmp 71)]⟩, []⟩, ⟨4, ⟨(some 73), none, (.pure (.slice 2 true false false)), [(.tmp 69), (.tmp 72)]⟩, []⟩, ⟨5, ⟨(some 74), none, (.pure .id), [(.tmp 0)]⟩, []⟩, ⟨6, ⟨(some 75), none, (.pure .id), [(.tmp 1)]⟩, []⟩, ⟨7, ⟨(some 76), none, (.pure (.slice 2 true false false)), [(.tmp 74), (.tmp 75)]⟩, []⟩, ⟨8, ⟨(some 77), none, (.imp (.copy 2)), [(.tmp 73), (.tmp 76)]⟩, []⟩]) (.seq (.region [⟨0, ⟨(some 78), none, (.pure .id), [(.tmp 0)]⟩, []⟩, ⟨0, ⟨(some 79), none, (.pure .id), [(.tmp 1)]⟩, []⟩, ⟨0, ⟨(some 80), none, (.pure (.slice 2 true false false)), [(.tmp 78), (.tmp 79)]⟩, []⟩, ⟨0, ⟨(some 81), none, (.pure .id), [(.tmp 2)]⟩, []⟩, ⟨0, ⟨(some 82), none, (.imp (.copy 2)), [(.tmp 80), (.tmp 81)]⟩, []⟩]) (.seq (.region [⟨0, ⟨(some 83), none, (.pure .id), [(.tmp 0)]⟩, []⟩, ⟨0, ⟨(some 6), none, (.pure .id), [(.tmp 83)]⟩, []⟩]) .ret))) .skip)) (.seq (.region [⟨0, ⟨(some 84), none, (.pure .id), [(.tmp 0)]⟩, []⟩, ⟨0, ⟨(some 85), none, (.pure .id), [(.tmp 8)]⟩, []⟩, ⟨0, ⟨(some 86), none, (.pure (.slice 2 true false false)), [(.tmp 84), (.tmp 85)]⟩, []⟩, ⟨0, ⟨(some 87), none, (.pure .id), [(.tmp 2)]⟩, []⟩, ⟨0, ⟨(some 88), none, (.imp (.copy 2)), [(.tmp 86), (.tmp 87)]⟩, []⟩]) (.seq (.region [⟨0, ⟨(some 89), none, (.pure .id), [(.tmp 0)]⟩, []⟩, ⟨0, ⟨(some 90), none, (.pure .id), [(.tmp 1)]⟩, []⟩, ⟨0, ⟨(some 91), none, (.pure (.slice 2 true false false)), [(.tmp 89), (.tmp 90)]⟩, []⟩, ⟨0, ⟨(some 92), none, (.pure .id), [(.tmp 7)]⟩, []⟩, ⟨0, ⟨(some 93), none, (.call F_slices_rotateRight_api_Block), [(.tmp 91), (.tmp 92)]⟩, []⟩]) (.seq (.region [⟨0, ⟨(some 94), none, (.pure .id), [(.tmp 0)]⟩, []⟩, ⟨0, ⟨(some 6), none, (.pure .id), [(.tmp 94)]⟩, []⟩]) .ret))))))))))))⟩
theorem c_slices_Insert_api_Block_api_Block : compF Try.prog Try.f45 = some G_slices_Insert_api_Block_api_Block := by kernel_rfl
theorem gc_slices_Insert_api_Block_api_Block {args : List DV} {σ : GS} {Post : DV → GS → Prop} (h : @exB Try.prog ⟨G_slices_Insert_api_Block_api_Block.body⟩ (genv0 args G_slices_Insert_api_Block_api_Block.ntmps) σ ⟨@gretB G_slices_Insert_api_Block_api_Block.results ⟨Post⟩⟩) : GCall Try.prog F_slices_Insert_api_Block_api_Block args σ Post := gcall_ofB seatfollows Try.func45 (by kernel_rfl) c_slices_Insert_api_Block_api_Block h
end Go.Gh
namespace Go.Gh
open Go.RowKit Go.Proofs
set_option linter.unusedVariables false
set_option linter.unusedSimpArgs false
set_option maxRecDepth 100000
theorem slice_loC {id off L c k sz : Nat} (h : k ≤ L) (h2 : L ≤ c) : gpure (.slice sz true false false) [.slice id off L sz (some c), .int .i64 (k : Int)] = some (.slice id (off + k * sz) (L - k) sz (some (c - k))) := by
  simp [gpure, gslice, gbm, gbh, gbl, gbound, h, h2]
theorem slice_hiC {id off L c k sz : Nat} (h : k ≤ c) : gpure (.slice sz false true false) [.slice id off L sz (some c), .int .i64 (k : Int)] = some (.slice id off k sz (some c)) := by
  simp [gpure, gslice, gbm, gbh, gbl, gbound, h]
theorem slice_loN {id off L k sz : Nat} (h : k ≤ L) : gpure (.slice sz true false false) [.slice id off L sz none, .int .i64 (k : Int)] = some (.slice id (off + k * sz) (L - k) sz none) := by
  simp [gpure, gslice, gbm, gbh, gbl, gbound, h]
theorem gzeros_len (z : List DV) (hz : z ≠ []) (m : Nat) : (gzeros z m).length = m := by
  unfold gzeros
  split
  · simp
  · simp
theorem gread_at {id off len sz : Nat} {cap : Option Nat} {σ : GS} {ro : Bool} {cs : List DV} (h : σ[id]? = some (.row ro cs)) (hl : off + len * sz ≤ cs.length) (h0 : 0 < len) : gread sz (.slice id off len sz cap) σ = some ((cs.drop off).take (len * sz)) := by
  simp only [gread]
  rw [if_neg (by omega), if_pos trivial, h]
  simp only
  rw [if_pos hl]
theorem gread_at0 {id off sz : Nat} {cap : Option Nat} {σ : GS} : gread sz (.slice id off 0 sz cap) σ = some [] := by simp [gread]
@[simp] theorem gp_cap_some (id off n sz c : Nat) : gpure .cap [.slice id off n sz (some c)] = some (.int .i64 c) := rfl
set_option maxHeartbeats 2000000 in
theorem insert_run {id id2 n i : Nat} {cs : List DV} {x y : DV} {σ : GS} (h1 : σ[id]? = some (.row false cs)) (hl : cs.length = n * 2) (h2 : σ[id2]? = some (.row false [x, y])) (hne : id ≠ id2) (hi : i < n) (hn : n < 2 ^ 40) (hf : cs.all DV.flat = true) (hx : x.flat = true) (hy : y.flat = true) :
    GCall Try.prog F_slices_Insert_api_Block_api_Block [.slice id 0 n 2 none, .int .i64 i, .slice id2 0 1 2 (some 1)] σ fun v σ' => v = .slice σ.length 0 (n + 1) 2 none ∧ σ' = σ.set id .dead ++ [.row false (cs.take (i * 2) ++ [x, y] ++ cs.drop (i * 2))] := by
  have hid := (List.getElem?_eq_some_iff.1 h1).1
  have hid2 := (List.getElem?_eq_some_iff.1 h2).1
  refine GCall.capsplit h1 (by simpa using hl.symm) fun c hc => ?_
  obtain ⟨A, hA⟩ : ∃ A, cs.take (i * 2) = A := ⟨_, rfl⟩
  obtain ⟨D, hD⟩ : ∃ D, cs.drop (i * 2) = D := ⟨_, rfl⟩
  have hAl : A.length = i * 2 := by rw [← hA]; simp; omega
  have hDl : D.length = (n - i) * 2 := by rw [← hD]; simp; omega
  have hAD : cs = A ++ D := by rw [← hA, ← hD, List.take_append_drop]
  have hDf : D.all DV.flat = true := by
    rw [List.all_eq_true] at hf ⊢
    intro d hd; exact hf d (by rw [hAD]; exact List.mem_append_right _ hd)
  have hxy : [x, y].all DV.flat = true := by simp [hx, hy]
  have w1 : IntKind.i64.wrap ((n : Int) + 1) = n + 1 := by rw [wrap_small] <;> omega
  have w2 : IntKind.i64.wrap ((i : Int) + 1) = i + 1 := by rw [wrap_small] <;> omega
  have w3 : IntKind.i64.wrap ((n : Int) + 1 - i) = n + 1 - i := by rw [wrap_small] <;> omega
  have hin : ¬ ((i : Int) = n) := by omega
  have hin2 : ¬ (i = n) := by omega
  rcases Nat.lt_or_ge n c with hlt | hge
  · obtain ⟨W, hW⟩ : ∃ W, List.replicate ((c - n) * 2) DV.any = W := ⟨_, rfl⟩
    have hWl : W.length = (c - n) * 2 := by rw [← hW]; simp
    rw [hW]
    obtain ⟨τ, hτ⟩ : ∃ τ, σ.set id (.row false (cs ++ W)) = τ := ⟨_, rfl⟩
    have hτl : τ.length = σ.length := by rw [← hτ]; simp
    have t1 : τ[id]? = some (.row false (A ++ D ++ W)) := by rw [← hτ, List.getElem?_set_self hid, hAD]
    have t2 : τ[id2]? = some (.row false [x, y]) := by rw [← hτ, List.getElem?_set_ne hne]; exact h2
    obtain ⟨R, hR⟩ : ∃ R, (A ++ D ++ W).drop ((i + 1) * 2 + D.length) = R := ⟨_, rfl⟩
    obtain ⟨U, hU⟩ : ∃ U, (D ++ W).take 2 = U := ⟨_, rfl⟩
    have hUl : U.length = 2 := by rw [← hU]; simp; omega
    rw [hτ]
    refine GCall.conv (Post0 := fun v σ' => v = .slice id 0 (n + 1) 2 (some c) ∧ σ' = τ.set id (.row false (A ++ [x, y] ++ D ++ R))) ?_ ?_
    · refine gc_slices_Insert_api_Block_api_Block ?_
      have gt : ¬ ((c : Int) < (n : Int) + 1) := by omega
      have s1 := slice_loC (id := id) (off := 0) (L := n) (c := c) (k := i) (sz := 2) (by omega) (by omega)
      have s2 := slice_hiC (id := id) (off := 0) (L := n) (c := c) (k := n + 1) (sz := 2) (by omega)
      have s3 := slice_loC (id := id) (off := 0) (L := n + 1) (c := c) (k := i + 1) (sz := 2) (by omega) (by omega)
      have s4 := slice_loC (id := id) (off := 0) (L := n + 1) (c := c) (k := i) (sz := 2) (by omega) (by omega)
      simp at s1 s2 s3 s4
      have rd1 : gread 2 (.slice id (i * 2) (n + 1 - i) 2 (some (c - i))) τ = some (D ++ W.take 2) := by
        rw [gread_at t1 (by simp only [List.length_append, hAl, hDl, hWl]; omega) (by omega), List.append_assoc, ← hAl, List.drop_left]
        rw [show (n + 1 - i) * 2 = D.length + 2 by omega, List.take_append]
        rw [List.take_of_length_le (by omega), show D.length + 2 - D.length = 2 by omega]
      have cp1 : gimp (.copy 2) [.slice id ((i + 1) * 2) (n - i) 2 (some (c - (i + 1))), .slice id (i * 2) (n + 1 - i) 2 (some (c - i))] τ = some (.int .i64 ((n - i : Nat) : Int), τ.set id (.row false (A ++ U ++ (D ++ R)))) := by
        have m1 : min (n + 1 - i) (n - i) = n - i := by omega
        have ht : (D ++ W.take 2).take ((n - i) * 2) = D := by rw [← hDl, List.take_left]
        have ho : over (A ++ D ++ W) ((i + 1) * 2) D = A ++ U ++ (D ++ R) := by
          unfold over
          rw [hR]
          have : (A ++ D ++ W).take ((i + 1) * 2) = A ++ U := by
            rw [List.append_assoc, List.take_append, List.take_of_length_le (by omega), show (i + 1) * 2 - A.length = 2 by omega, hU]
          rw [this]
        simp only [gimp, rd1, glen, m1, t1, ht]
        rw [if_neg (by omega), if_pos trivial, if_pos ⟨by simp only [List.length_append, hAl, hDl, hWl]; omega, hDf⟩, ho]
      have t3 : (τ.set id (.row false (A ++ U ++ (D ++ R))))[id]? = some (.row false (A ++ U ++ (D ++ R))) := List.getElem?_set_self (by omega)
      have rd2 : gread 2 (.slice id2 0 1 2 (some 1)) (τ.set id (.row false (A ++ U ++ (D ++ R)))) = some [x, y] := by
        rw [gread_at (by rw [List.getElem?_set_ne hne]; exact t2) (by simp) (by omega)]; rfl
      have cp2 : gimp (.copy 2) [.slice id (i * 2) (n + 1 - i) 2 (some (c - i)), .slice id2 0 1 2 (some 1)] (τ.set id (.row false (A ++ U ++ (D ++ R)))) = some (.int .i64 1, τ.set id (.row false (A ++ [x, y] ++ D ++ R))) := by
        have m1 : min 1 (n + 1 - i) = 1 := by omega
        have ho : over (A ++ U ++ (D ++ R)) (i * 2) [x, y] = A ++ [x, y] ++ D ++ R := by
          rw [List.append_assoc, ← hAl, over_end]
          have : (U ++ (D ++ R)).drop [x, y].length = D ++ R := by
            rw [show [x, y].length = U.length by rw [hUl]; rfl, List.drop_left]
          rw [this]; simp
        simp only [gimp, rd2, glen, m1, t3]
        rw [if_neg (by decide), if_pos trivial, if_pos ⟨by simp only [List.length_append, hAl, hUl, hDl]; omega, by simpa using hxy⟩]
        simp only [show ([x, y] : List DV).take (1 * 2) = [x, y] from rfl, ho, List.set_set]
        rfl
      simp [G_slices_Insert_api_Block_api_Block, genv0, List.replicate, s1, s2, hin, hin2, w1, w2, w3, gt]
      have r1 : ∃ r rs, A ++ D ++ W = r :: rs := by
        cases hh : A ++ D ++ W with
        | nil => have := congrArg List.length hh; simp [hAl, hDl] at this; omega
        | cons r rs => exact ⟨r, rs, rfl⟩
      obtain ⟨r, rs, hrs⟩ := r1
      simp [s3]
      refine ovl_ok (P := Try.prog) (size := 2) (tS := 22) (tR := 4) (e := 44) Try.func71 (by kernel_rfl) (by kernel_rfl) (by kernel_rfl) (by kernel_rfl) (by kernel_rfl) (by kernel_rfl) t2 (by rw [hrs] at t1; exact t1) hne.symm (by omega) (by omega) ?_
      simp only [List.append_assoc, List.cons_append, List.nil_append] at cp1 cp2
      simp [w2, s3, s4, cp1, cp2]
    · rintro N w0 ρ σ' w v rv hr hv ⟨rfl, rfl⟩ hle
      obtain ⟨L, a, c', hL, rfl, k1, k2, k3, k4⟩ := hv.slice_inv
      have := k3 c rfl
      subst this
      have hmv := hr.move hL (List.getElem?_set_self (by omega)) 0 (by omega) ((n + 1) * 2) (by omega)
      refine ⟨.slice σ.length 0 (n + 1) 2 none, _, _, hmv, ?_, ?_, by simp [hτl], rfl, ?_⟩
      · refine ⟨⟨fun j hj => ?_, fun _ _ _ h => h⟩, fun j M hM => ?_, Nat.le_refl _, fun _ _ _ => rfl, fun _ r hr => ⟨r, hr, rfl⟩⟩
        · exact Ren.put_other _ _ (by simp [hτl]; omega)
        · by_cases hj : j = (τ.set id (.row false (A ++ [x, y] ++ D ++ R))).length
          · subst hj
            rw [Ren.put_same] at hM; cases hM
            exact .inl ⟨id, L, hL, rfl⟩
          · rw [Ren.put_other _ _ hj] at hM; exact .inl ⟨j, M, hM, rfl⟩
      · simp only [VR]
        refine ⟨_, a, c', by rw [show σ.length = (τ.set id (.row false (A ++ [x, y] ++ D ++ R))).length by simp [hτl]]; exact Ren.put_same _ _ _, rfl, k1, fun h => by simpa using k2 h, (fun c' h => by cases h), by simpa using k4⟩
      · rw [List.set_set, ← hτ, List.set_set, hA, hD, List.drop_zero]
        congr 3
        rw [List.take_append_of_le_length (by simp [hAl, hDl]; omega), List.take_of_length_le (by simp [hAl, hDl]; omega)]
  · have hcn : c = n := by omega
    subst hcn
    have hset : σ.set id (.row false (cs ++ List.replicate ((c - c) * 2) .any)) = σ := by
      apply List.ext_getElem?
      intro j
      by_cases hj : j = id
      · subst hj; rw [List.getElem?_set_self hid, h1]; simp
      · rw [List.getElem?_set_ne (fun e => hj e.symm)]
    rw [hset]
    obtain ⟨Z, hZ⟩ : ∃ Z, gzeros [DV.bool false, DV.nils] ((c + 1 - i) * 2) = Z := ⟨_, rfl⟩
    have hZl : Z.length = (c + 1 - i) * 2 := by rw [← hZ]; exact gzeros_len _ (by simp) _
    refine GCall.conv (Post0 := fun v σ' => v = .slice σ.length 0 (c + 1) 2 none ∧ σ' = σ ++ [.row false (A ++ [x, y] ++ D)]) ?_ ?_
    · refine gc_slices_Insert_api_Block_api_Block ?_
      have s1 := slice_loC (id := id) (off := 0) (L := c) (c := c) (k := i) (sz := 2) (by omega) (Nat.le_refl _)
      have s2 := slice_hiC (id := id) (off := 0) (L := c) (c := c) (k := i) (sz := 2) (by omega)
      have gt : ((c : Int) < c + 1) := by omega
      simp at s1 s2
      have w4 : IntKind.i64.wrap ((i : Int) + 1) = ((i + 1 : Nat) : Int) := by rw [w2]; omega
      have w5 : ((c : Int) + 1 - i) = ((c + 1 - i : Nat) : Int) := by omega
      have hgo : growOk (c + 1) 32 = true := by simp [growOk]; omega
      have rd1 : gread 2 (.slice id 0 i 2 (some c)) σ = some A := by
        by_cases h0 : i = 0
        · subst h0
          rw [gread_at0]; simp at hA; rw [← hA]
        · rw [gread_at h1 (by omega) (by omega)]; simp [hA]
      have haz : gimp (.appendz 2 32 [.bool false, .nils]) [.slice id 0 i 2 (some c), .int .i64 ((c : Int) + 1 - i)] σ = some (.slice σ.length 0 (c + 1) 2 none, σ ++ [.row false (A ++ Z)]) := by
        have e1 : (0 : Int) < (c : Int) + 1 - i := by omega
        have e2 : i + ((c : Int) + 1 - i).toNat = c + 1 := by omega
        have e3 : ((c : Int) + 1 - i).toNat * 2 = (c + 1 - i) * 2 := by omega
        simp only [gimp]
        rw [if_pos ⟨trivial, e1, by omega, by rw [e2]; exact hgo⟩, rd1]
        simp only
        rw [e2, e3, hZ]
      have hrow1 : (σ ++ [GObj.row false (A ++ Z)])[σ.length]? = some (.row false (A ++ Z)) := by simp
      have s3 := slice_loN (id := σ.length) (off := 0) (L := c + 1) (k := i) (sz := 2) (by omega)
      have s4 := slice_loN (id := σ.length) (off := 0) (L := c + 1) (k := i + 1) (sz := 2) (by omega)
      simp at s3 s4
      have rd2 : gread 2 (.slice id2 0 1 2 (some 1)) (σ ++ [GObj.row false (A ++ Z)]) = some [x, y] := by
        rw [gread_at (getE_append h2) (by simp) (by omega)]; rfl
      have cp1 : gimp (.copy 2) [.slice σ.length (i * 2) (c + 1 - i) 2 none, .slice id2 0 1 2 (some 1)] (σ ++ [.row false (A ++ Z)]) = some (.int .i64 1, σ ++ [.row false (A ++ [x, y] ++ Z.drop 2)]) := by
        have m1 : min 1 (c + 1 - i) = 1 := by omega
        have ho : over (A ++ Z) (i * 2) [x, y] = A ++ [x, y] ++ Z.drop 2 := by rw [← hAl]; exact over_end
        simp only [gimp, rd2, glen, m1, hrow1]
        rw [if_neg (by decide), if_pos trivial, if_pos ⟨by simp only [List.length_append, hAl, hZl]; omega, by simpa using hxy⟩]
        simp only [show ([x, y] : List DV).take (1 * 2) = [x, y] from rfl, ho]
        rw [List.set_append_right _ _ (Nat.le_refl _)]
        simp
      have hrow2 : (σ ++ [GObj.row false (A ++ [x, y] ++ Z.drop 2)])[σ.length]? = some (.row false (A ++ [x, y] ++ Z.drop 2)) := by simp
      have rd3 : gread 2 (.slice id (i * 2) (c - i) 2 (some (c - i))) (σ ++ [GObj.row false (A ++ [x, y] ++ Z.drop 2)]) = some D := by
        rw [gread_at (getE_append h1) (by omega) (by omega), hD, List.take_of_length_le (by omega)]
      have cp2 : gimp (.copy 2) [.slice σ.length ((i + 1) * 2) (c - i) 2 none, .slice id (i * 2) (c - i) 2 (some (c - i))] (σ ++ [.row false (A ++ [x, y] ++ Z.drop 2)]) = some (.int .i64 ((c - i : Nat) : Int), σ ++ [.row false (A ++ [x, y] ++ D)]) := by
        have ho : over (A ++ [x, y] ++ Z.drop 2) ((i + 1) * 2) D = A ++ [x, y] ++ D := by
          have e : (i + 1) * 2 = (A ++ [x, y]).length := by simp [hAl]; omega
          rw [e, over_end]
          have : (Z.drop 2).drop D.length = [] := by rw [List.drop_drop, List.drop_eq_nil_of_le (by omega)]
          rw [this, List.append_nil]
        simp only [gimp, rd3, glen, Nat.min_self, hrow2]
        rw [if_neg (by omega), if_pos trivial, if_pos ⟨by simp [hAl, hZl]; omega, by rw [List.take_of_length_le (by omega)]; exact hDf⟩]
        rw [List.take_of_length_le (show D.length ≤ (c - i) * 2 by omega), ho]
        simp
      simp only [List.append_assoc, List.cons_append, List.nil_append] at cp1 cp2
      simp [G_slices_Insert_api_Block_api_Block, genv0, List.replicate, s1, s2, hin, hin2, w1, w2, w3, gt, haz, s3, cp1, s4, cp2]
    · rintro N w0 ρ σ' w v rv hr hv ⟨rfl, rfl⟩ hle
      refine ⟨_, _, ρ, hr.kill id, Ext.refl _ _ _, hv, by simp, rfl, ?_⟩
      rw [List.set_append_left _ _ hid, hA, hD]
end Go.Gh
namespace Go.Gh
open Go.RowKit Go.Proofs
set_option linter.unusedVariables false
set_option linter.unusedSimpArgs false
set_option maxRecDepth 100000
/-- What slices.Insert does to a copy of a prefix, for the evaluator. -/
noncomputable def insH (args : List DV) (σ : HT) : Option (DV × HT) :=
  match args with
  | [.slice id off n sz none, .int k i, .slice id2 off2 m sz2 (some c2)] => match σ.get id, σ.get id2 with
    | some (.obj (.row false cs)), some (.obj (.row false [x, y])) =>
      if k = .i64 ∧ off = 0 ∧ sz = 2 ∧ off2 = 0 ∧ m = 1 ∧ sz2 = 2 ∧ c2 = 1 ∧ id ≠ id2 ∧ 0 ≤ i ∧ i.toNat < n ∧ n < 1000000 ∧ cs.length = n * 2 ∧ cs.all DV.flat = true ∧ x.flat = true ∧ y.flat = true then
        match (σ.set id (.obj .dead)).push (.obj (.row false (cs.take (i.toNat * 2) ++ [x, y] ++ cs.drop (i.toNat * 2)))) with
        | some σ' => some (.slice σ.n 0 (n + 1) 2 none, σ')
        | none => none
      else none
    | _, _ => none
  | _ => none
noncomputable def insX (f : FuncId) (args : List DV) (σ : HT) : Option (DV × HT) := if f = F_slices_Insert_api_Block_api_Block then insH args σ else none
theorem insX_ok (f : FuncId) (args : List DV) (σ : HT) (v : DV) (σ' : HT) (h : insX f args σ = some (v, σ')) : GCall Try.prog f args (den σ) fun a b => a = v ∧ b = den σ' := by
  unfold insX at h
  split at h
  rotate_left
  · cases h
  rename_i hf
  subst hf
  unfold insH at h
  split at h
  rotate_left
  · cases h
  rename_i id off n sz k i id2 off2 m sz2 c2
  split at h
  rotate_left
  · cases h
  rename_i cs x y g1 g2
  split at h
  rotate_left
  · cases h
  rename_i hc
  obtain ⟨rfl, rfl, rfl, rfl, rfl, rfl, rfl, hne, hi0, hin, hn, hl, hf, hx, hy⟩ := hc
  split at h
  rotate_left
  · cases h
  rename_i σ1 hp
  cases h
  obtain ⟨p1, p2⟩ := den_push hp
  rw [den_set] at p1 p2
  have hlen : σ.n = (den σ).length := by
    have e : (σ.set id (.obj .dead)).n = σ.n := by unfold HT.set; split <;> rfl
    rw [← e, p2]; simp
  obtain ⟨j, rfl⟩ : ∃ j : Nat, i = j := ⟨i.toNat, by omega⟩
  simp only [Int.toNat_natCast] at hin p1 ⊢
  refine (insert_run (den_at g1) hl (den_at g2) hne hin (by omega) hf hx hy).mono ?_
  rintro a b ⟨rfl, rfl⟩
  exact ⟨by rw [hlen], by rw [p1]; rfl⟩
/-- A closed call answers true, with the oracle's help. -/
noncomputable def sayTrueX (P : Program) (X : FuncId → List DV → HT → Option (DV × HT)) (n : Nat) (f : FuncId) (args : List DV) : Bool :=
  match (evAllX P (tabOf P) X n).call f args ⟨0, .e⟩ with
  | some (.bool true, _) => true
  | _ => false
theorem sayTrueX_ok {P : Program} (hm : P.follows .mixedOrders = true) {X : FuncId → List DV → HT → Option (DV × HT)} (hX : ∀ f args σ v σ', X f args σ = some (v, σ') → GCall P f args (den σ) fun a b => a = v ∧ b = den σ') {n : Nat} {f : FuncId} {args : List DV} (h : sayTrueX P X n f args = true) : GCall P f args [] fun v _ => v = .bool true := by
  unfold sayTrueX at h
  split at h
  · rename_i s he
    have := (evAllX_ok hm (tabOf_ok P) hX n).call f args ⟨0, .e⟩ _ _ he
    rw [show den ⟨0, .e⟩ = [] by simp [den]] at this
    exact this.mono fun v σ' hh => hh.1
  · cases h
end Go.Gh
namespace Go.Gh
open Go.Proofs
set_option maxRecDepth 100000
theorem head_run : sayTrueX Try.prog insX 60 8 [] = true := by kernel_rfl
theorem head_ok {σ : GS} {Post : DV → GS → Prop} (k : Post (.bool true) σ) : GCall Try.prog 8 [] σ Post :=
  GCall.closed (sayTrueX_ok seatfollows insX_ok head_run) k
end Go.Gh
namespace Go.Gh
open Go.Proofs
abbrev F_skolemlaw03_PrefixSames : Nat := 6
abbrev F_skolemlaw03_wide : Nat := 7
abbrev F_skolemlaw03_head : Nat := 8
abbrev F_skolemref03_Ints : Nat := 18
abbrev F_skolemlaw03_broad : Nat := 25
abbrev F_prefix_SameDqbf : Nat := 26
abbrev F_skolemref03_SameDqbf : Nat := 27
abbrev F_skolemref03_Lists : Nat := 50
abbrev F_slices_EqualFunc_api_Dep_api_Dep_api_Dep_api_Dep : Nat := 55
abbrev F_prefix_SameDqbf_1 : Nat := 56
abbrev F_slices_Equal_int_int : Nat := 57
abbrev F_slices_EqualFunc_int_int_int_int : Nat := 58
noncomputable abbrev G_skolemlaw03_PrefixSames : GFun := ⟨31, [(.tmp 4)], (.seq (.region [⟨0, ⟨(some 2), none, (.new .box), [(.tmp 0)]⟩, []⟩, ⟨0, ⟨(some 3), none, (.new .box), [(.tmp 1)]⟩, []⟩, ⟨0, ⟨(some 4), none, (.pure .id), [(.const (.bool false))]⟩, []⟩]) (.seq (.seq (.region [⟨0, ⟨(some 5), none, (.load (.load 3 true)), [(.tmp 2)]⟩, []⟩, ⟨0, ⟨(some 6), none, (.call F_skolemlaw03_broad), [(.tmp 5), (.const (.int .i64 400))]⟩, []⟩, ⟨0, ⟨(some 7), none, (.pure .id), [(.tmp 6)]⟩, []⟩, ⟨0, ⟨(some 8), (some (7, false)), (.load (.load 3 true)), [(.tmp 3)]⟩, []⟩, ⟨0, ⟨(some 9), (some (7, false)), (.call F_skolemlaw03_broad), [(.tmp 8), (.const (.int .i64 400))]⟩, []⟩, ⟨0, ⟨(some 10), none, (.pure .pick), [(.tmp 7), (.const (.bool true)), (.tmp 9)]⟩, []⟩]) (.cond (.tmp 10) (.seq (.region [⟨0, ⟨(some 11), none, (.call F_skolemlaw03_head), []⟩, []⟩, ⟨0, ⟨(some 4), none, (.pure .id), [(.tmp 11)]⟩, []⟩]) .ret) .skip)) (.seq (.region [⟨0, ⟨(some 12), none, (.load (.load 3 true)), [(.tmp 2)]⟩, []⟩, ⟨1, ⟨(some 13), none, (.load (.load 3 true)), [(.tmp 3)]⟩, []⟩, ⟨3, ⟨(some 15), none, (.load (.load 3 true)), [(.tmp 2)]⟩, []⟩, ⟨4, ⟨(some 16), none, (.load (.load 3 true)), [(.tmp 3)]⟩, []⟩, ⟨2, ⟨(some 14), none, (.call F_prefix_SameDqbf), [(.tmp 12), (.tmp 13)]⟩, [⟨(some 15), none, (.load (.load 3 true)), [(.tmp 2)]⟩, ⟨(some 16), none, (.load (.load 3 true)), [(.tmp 3)]⟩]⟩, ⟨5, ⟨(some 17), none, (.call F_skolemref03_SameDqbf), [(.tmp 15), (.tmp 16)]⟩, []⟩, ⟨6, ⟨(some 18), none, (.pure (.bin .eql .bool)), [(.tmp 14), (.tmp 17)]⟩, []⟩, ⟨7, ⟨(some 19), none, (.pure .id), [(.tmp 18)]⟩, []⟩, ⟨8, ⟨(some 20), (some (19, true)), (.load (.load 3 true)), [(.tmp 3)]⟩, []⟩, ⟨9, ⟨(some 21), (some (19, true)), (.load (.load 3 true)), [(.tmp 2)]⟩, []⟩, ⟨11, ⟨(some 23), (some (19, true)), (.load (.load 3 true)), [(.tmp 3)]⟩, []⟩, ⟨12, ⟨(some 24), (some (19, true)), (.load (.load 3 true)), [(.tmp 2)]⟩, []⟩, ⟨10, ⟨(some 22), (some (19, true)), (.call F_prefix_SameDqbf), [(.tmp 20), (.tmp 21)]⟩, [⟨(some 23), (some (19, true)), (.load (.load 3 true)), [(.tmp 3)]⟩, ⟨(some 24), (some (19, true)), (.load (.load 3 true)), [(.tmp 2)]⟩]⟩, ⟨13, ⟨(some 25), (some (19, true)), (.call F_skolemref03_SameDqbf), [(.tmp 23), (.tmp 24)]⟩, []⟩, ⟨14, ⟨(some 26), (some (19, true)), (.pure (.bin .eql .bool)), [(.tmp 22), (.tmp 25)]⟩, []⟩, ⟨15, ⟨(some 27), none, (.pure .pick), [(.tmp 19), (.tmp 26), (.const (.bool false))]⟩, []⟩, ⟨16, ⟨(some 28), none, (.pure .id), [(.tmp 27)]⟩, []⟩, ⟨17, ⟨(some 29), (some (28, true)), (.call F_skolemlaw03_head), []⟩, []⟩, ⟨18, ⟨(some 30), none, (.pure .pick), [(.tmp 28), (.tmp 29), (.const (.bool false))]⟩, []⟩, ⟨19, ⟨(some 4), none, (.pure .id), [(.tmp 30)]⟩, []⟩]) .ret)))⟩
theorem c_skolemlaw03_PrefixSames : compF Try.prog Try.f6 = some G_skolemlaw03_PrefixSames := by kernel_rfl
theorem gc_skolemlaw03_PrefixSames {args : List DV} {σ : GS} {Post : DV → GS → Prop} (h : @exB Try.prog ⟨G_skolemlaw03_PrefixSames.body⟩ (genv0 args G_skolemlaw03_PrefixSames.ntmps) σ ⟨@gretB G_skolemlaw03_PrefixSames.results ⟨Post⟩⟩) : GCall Try.prog F_skolemlaw03_PrefixSames args σ Post := gcall_ofB seatfollows Try.func6 (by kernel_rfl) c_skolemlaw03_PrefixSames h
noncomputable abbrev G_skolemlaw03_broad : GFun := ⟨39, [(.tmp 4)], (.seq (.region [⟨0, ⟨(some 2), none, (.new .box), [(.tmp 0)]⟩, []⟩, ⟨0, ⟨(some 4), none, (.pure .id), [(.const (.bool false))]⟩, []⟩]) (.seq (.region [⟨0, ⟨(some 7), none, (.pure (.faddr 0)), [(.tmp 2)]⟩, []⟩, ⟨0, ⟨(some 8), none, (.load (.load 1 false)), [(.tmp 7)]⟩, []⟩, ⟨0, ⟨(some 9), none, (.pure .len), [(.tmp 8)]⟩, []⟩, ⟨0, ⟨(some 10), none, (.pure (.faddr 1)), [(.tmp 2)]⟩, []⟩, ⟨0, ⟨(some 11), none, (.load (.load 1 false)), [(.tmp 10)]⟩, []⟩, ⟨0, ⟨(some 12), none, (.pure .len), [(.tmp 11)]⟩, []⟩, ⟨0, ⟨(some 13), none, (.pure (.bin .add .none)), [(.tmp 9), (.tmp 12)]⟩, []⟩, ⟨0, ⟨(some 5), none, (.pure .id), [(.tmp 13)]⟩, []⟩]) (.seq (.seq (.region [⟨0, ⟨(some 6), none, (.pure .id), [(.const (.int .i64 0))]⟩, []⟩]) (.block 0 (.loop (.seq (.seq (.region [⟨0, ⟨(some 14), none, (.pure .id), [(.tmp 6)]⟩, []⟩, ⟨0, ⟨(some 15), none, (.pure (.faddr 1)), [(.tmp 2)]⟩, []⟩, ⟨0, ⟨(some 16), none, (.load (.load 1 false)), [(.tmp 15)]⟩, []⟩, ⟨0, ⟨(some 17), none, (.pure .len), [(.tmp 16)]⟩, []⟩, ⟨0, ⟨(some 18), none, (.pure (.bin .lss .none)), [(.tmp 14), (.tmp 17)]⟩, []⟩]) (.cond (.tmp 18) .skip (.exit 0))) (.seq (.block 1 (.region [⟨0, ⟨(some 21), none, (.pure .id), [(.tmp 5)]⟩, []⟩, ⟨0, ⟨(some 22), none, (.pure (.faddr 1)), [(.tmp 2)]⟩, []⟩, ⟨0, ⟨(some 23), none, (.load (.load 1 false)), [(.tmp 22)]⟩, []⟩, ⟨0, ⟨(some 24), none, (.pure .id), [(.tmp 6)]⟩, []⟩, ⟨0, ⟨(some 25), none, (.pure (.iaddr 2)), [(.tmp 23), (.tmp 24)]⟩, []⟩, ⟨0, ⟨(some 26), none, (.pure (.faddr 1)), [(.tmp 25)]⟩, []⟩, ⟨0, ⟨(some 27), none, (.load (.load 1 false)), [(.tmp 26)]⟩, []⟩, ⟨0, ⟨(some 28), none, (.pure .len), [(.tmp 27)]⟩, []⟩, ⟨0, ⟨(some 29), none, (.pure (.bin .add .none)), [(.tmp 21), (.tmp 28)]⟩, []⟩, ⟨0, ⟨(some 5), none, (.pure .id), [(.tmp 29)]⟩, []⟩])) (.region [⟨0, ⟨(some 19), none, (.pure .id), [(.tmp 6)]⟩, []⟩, ⟨0, ⟨(some 20), none, (.pure (.bin .add .none)), [(.tmp 19), (.const (.int .i64 1))]⟩, []⟩, ⟨0, ⟨(some 6), none, (.pure .id), [(.tmp 20)]⟩, []⟩])))))) (.seq (.region [⟨0, ⟨(some 30), none, (.pure .id), [(.tmp 5)]⟩, []⟩, ⟨0, ⟨(some 31), none, (.pure .id), [(.tmp 1)]⟩, []⟩, ⟨0, ⟨(some 32), none, (.pure (.bin .gtr .none)), [(.tmp 30), (.tmp 31)]⟩, []⟩, ⟨0, ⟨(some 33), none, (.pure .id), [(.tmp 32)]⟩, []⟩, ⟨0, ⟨(some 34), (some (33, false)), (.pure (.faddr 2)), [(.tmp 2)]⟩, []⟩, ⟨0, ⟨(some 35), (some (33, false)), (.load (.load 1 false)), [(.tmp 34)]⟩, []⟩, ⟨0, ⟨(some 36), (some (33, false)), (.pure .id), [(.tmp 1)]⟩, []⟩, ⟨0, ⟨(some 37), (some (33, false)), (.call F_skolemlaw03_wide), [(.const .nils), (.tmp 35), (.tmp 36)]⟩, []⟩, ⟨0, ⟨(some 38), none, (.pure .pick), [(.tmp 33), (.const (.bool true)), (.tmp 37)]⟩, []⟩, ⟨0, ⟨(some 4), none, (.pure .id), [(.tmp 38)]⟩, []⟩]) .ret))))⟩
theorem c_skolemlaw03_broad : compF Try.prog Try.f25 = some G_skolemlaw03_broad := by kernel_rfl
theorem gc_skolemlaw03_broad {args : List DV} {σ : GS} {Post : DV → GS → Prop} (h : @exB Try.prog ⟨G_skolemlaw03_broad.body⟩ (genv0 args G_skolemlaw03_broad.ntmps) σ ⟨@gretB G_skolemlaw03_broad.results ⟨Post⟩⟩) : GCall Try.prog F_skolemlaw03_broad args σ Post := gcall_ofB seatfollows Try.func25 (by kernel_rfl) c_skolemlaw03_broad h
noncomputable abbrev G_skolemlaw03_wide : GFun := ⟨45, [(.tmp 6)], (.seq (.region [⟨0, ⟨(some 6), none, (.pure .id), [(.const (.bool false))]⟩, []⟩]) (.seq (.region [⟨0, ⟨(some 10), none, (.pure .id), [(.tmp 0)]⟩, []⟩, ⟨0, ⟨(some 11), none, (.pure .len), [(.tmp 10)]⟩, []⟩, ⟨0, ⟨(some 12), none, (.pure .id), [(.tmp 1)]⟩, []⟩, ⟨0, ⟨(some 13), none, (.pure .len), [(.tmp 12)]⟩, []⟩, ⟨0, ⟨(some 14), none, (.pure (.bin .add .none)), [(.tmp 11), (.tmp 13)]⟩, []⟩, ⟨0, ⟨(some 7), none, (.pure .id), [(.tmp 14)]⟩, []⟩]) (.seq (.seq (.region [⟨0, ⟨(some 8), none, (.pure .id), [(.const (.int .i64 0))]⟩, []⟩]) (.block 0 (.loop (.seq (.seq (.region [⟨0, ⟨(some 15), none, (.pure .id), [(.tmp 8)]⟩, []⟩, ⟨0, ⟨(some 16), none, (.pure .id), [(.tmp 0)]⟩, []⟩, ⟨0, ⟨(some 17), none, (.pure .len), [(.tmp 16)]⟩, []⟩, ⟨0, ⟨(some 18), none, (.pure (.bin .lss .none)), [(.tmp 15), (.tmp 17)]⟩, []⟩]) (.cond (.tmp 18) .skip (.exit 0))) (.seq (.block 1 (.region [⟨0, ⟨(some 21), none, (.pure .id), [(.tmp 7)]⟩, []⟩, ⟨0, ⟨(some 22), none, (.pure .id), [(.tmp 0)]⟩, []⟩, ⟨0, ⟨(some 23), none, (.pure .id), [(.tmp 8)]⟩, []⟩, ⟨0, ⟨(some 24), none, (.pure (.iaddr 2)), [(.tmp 22), (.tmp 23)]⟩, []⟩, ⟨0, ⟨(some 25), none, (.pure (.faddr 1)), [(.tmp 24)]⟩, []⟩, ⟨0, ⟨(some 26), none, (.load (.load 1 false)), [(.tmp 25)]⟩, []⟩, ⟨0, ⟨(some 27), none, (.pure .len), [(.tmp 26)]⟩, []⟩, ⟨0, ⟨(some 28), none, (.pure (.bin .add .none)), [(.tmp 21), (.tmp 27)]⟩, []⟩, ⟨0, ⟨(some 7), none, (.pure .id), [(.tmp 28)]⟩, []⟩])) (.region [⟨0, ⟨(some 19), none, (.pure .id), [(.tmp 8)]⟩, []⟩, ⟨0, ⟨(some 20), none, (.pure (.bin .add .none)), [(.tmp 19), (.const (.int .i64 1))]⟩, []⟩, ⟨0, ⟨(some 8), none, (.pure .id), [(.tmp 20)]⟩, []⟩])))))) (.seq (.seq (.region [⟨0, ⟨(some 9), none, (.pure .id), [(.const (.int .i64 0))]⟩, []⟩]) (.block 2 (.loop (.seq (.seq (.region [⟨0, ⟨(some 29), none, (.pure .id), [(.tmp 9)]⟩, []⟩, ⟨0, ⟨(some 30), none, (.pure .id), [(.tmp 1)]⟩, []⟩, ⟨0, ⟨(some 31), none, (.pure .len), [(.tmp 30)]⟩, []⟩, ⟨0, ⟨(some 32), none, (.pure (.bin .lss .none)), [(.tmp 29), (.tmp 31)]⟩, []⟩]) (.cond (.tmp 32) .skip (.exit 2))) (.seq (.block 3 (.region [⟨0, ⟨(some 35), none, (.pure .id), [(.tmp 7)]⟩, []⟩, ⟨0, ⟨(some 36), none, (.pure .id), [(.tmp 1)]⟩, []⟩, ⟨0, ⟨(some 37), none, (.pure .id), [(.tmp 9)]⟩, []⟩, ⟨0, ⟨(some 38), none, (.pure (.iaddr 1)), [(.tmp 36), (.tmp 37)]⟩, []⟩, ⟨0, ⟨(some 39), none, (.load (.load 1 false)), [(.tmp 38)]⟩, []⟩, ⟨0, ⟨(some 40), none, (.pure .len), [(.tmp 39)]⟩, []⟩, ⟨0, ⟨(some 41), none, (.pure (.bin .add .none)), [(.tmp 35), (.tmp 40)]⟩, []⟩, ⟨0, ⟨(some 7), none, (.pure .id), [(.tmp 41)]⟩, []⟩])) (.region [⟨0, ⟨(some 33), none, (.pure .id), [(.tmp 9)]⟩, []⟩, ⟨0, ⟨(some 34), none, (.pure (.bin .add .none)), [(.tmp 33), (.const (.int .i64 1))]⟩, []⟩, ⟨0, ⟨(some 9), none, (.pure .id), [(.tmp 34)]⟩, []⟩])))))) (.seq (.region [⟨0, ⟨(some 42), none, (.pure .id), [(.tmp 7)]⟩, []⟩, ⟨0, ⟨(some 43), none, (.pure .id), [(.tmp 2)]⟩, []⟩, ⟨0, ⟨(some 44), none, (.pure (.bin .gtr .none)), [(.tmp 42), (.tmp 43)]⟩, []⟩, ⟨0, ⟨(some 6), none, (.pure .id), [(.tmp 44)]⟩, []⟩]) .ret)))))⟩
theorem c_skolemlaw03_wide : compF Try.prog Try.f7 = some G_skolemlaw03_wide := by kernel_rfl
theorem gc_skolemlaw03_wide {args : List DV} {σ : GS} {Post : DV → GS → Prop} (h : @exB Try.prog ⟨G_skolemlaw03_wide.body⟩ (genv0 args G_skolemlaw03_wide.ntmps) σ ⟨@gretB G_skolemlaw03_wide.results ⟨Post⟩⟩) : GCall Try.prog F_skolemlaw03_wide args σ Post := gcall_ofB seatfollows Try.func7 (by kernel_rfl) c_skolemlaw03_wide h
noncomputable abbrev G_prefix_SameDqbf : GFun := ⟨26, [(.tmp 4)], (.seq (.region [⟨0, ⟨(some 2), none, (.new .box), [(.tmp 0)]⟩, []⟩, ⟨0, ⟨(some 3), none, (.new .box), [(.tmp 1)]⟩, []⟩, ⟨0, ⟨(some 4), none, (.pure .id), [(.const (.bool false))]⟩, []⟩]) (.seq (.region [⟨0, ⟨(some 6), none, (.pure (.faddr 1)), [(.tmp 2)]⟩, []⟩, ⟨0, ⟨(some 7), none, (.load (.load 1 false)), [(.tmp 6)]⟩, []⟩, ⟨0, ⟨(some 8), none, (.pure (.faddr 1)), [(.tmp 3)]⟩, []⟩, ⟨0, ⟨(some 9), none, (.load (.load 1 false)), [(.tmp 8)]⟩, []⟩, ⟨0, ⟨(some 10), none, (.call F_slices_EqualFunc_api_Dep_api_Dep_api_Dep_api_Dep), [(.tmp 7), (.tmp 9), (.const (.func F_prefix_SameDqbf_1 [] []))]⟩, []⟩, ⟨0, ⟨(some 5), none, (.pure .id), [(.tmp 10)]⟩, []⟩]) (.seq (.region [⟨0, ⟨(some 11), none, (.pure .id), [(.tmp 5)]⟩, []⟩, ⟨0, ⟨(some 12), none, (.pure .id), [(.tmp 11)]⟩, []⟩, ⟨0, ⟨(some 13), (some (12, true)), (.pure (.faddr 0)), [(.tmp 2)]⟩, []⟩, ⟨0, ⟨(some 14), (some (12, true)), (.load (.load 1 false)), [(.tmp 13)]⟩, []⟩, ⟨0, ⟨(some 15), (some (12, true)), (.pure (.faddr 0)), [(.tmp 3)]⟩, []⟩, ⟨0, ⟨(some 16), (some (12, true)), (.load (.load 1 false)), [(.tmp 15)]⟩, []⟩, ⟨0, ⟨(some 17), (some (12, true)), (.call F_slices_Equal_int_int), [(.tmp 14), (.tmp 16)]⟩, []⟩, ⟨0, ⟨(some 18), none, (.pure .pick), [(.tmp 12), (.tmp 17), (.const (.bool false))]⟩, []⟩, ⟨0, ⟨(some 19), none, (.pure .id), [(.tmp 18)]⟩, []⟩, ⟨0, ⟨(some 20), (some (19, true)), (.pure (.faddr 2)), [(.tmp 2)]⟩, []⟩, ⟨0, ⟨(some 21), (some (19, true)), (.load (.load 1 false)), [(.tmp 20)]⟩, []⟩, ⟨0, ⟨(some 22), (some (19, true)), (.pure (.faddr 2)), [(.tmp 3)]⟩, []⟩, ⟨0, ⟨(some 23), (some (19, true)), (.load (.load 1 false)), [(.tmp 22)]⟩, []⟩, ⟨0, ⟨(some 24), (some (19, true)), (.call F_slices_EqualFunc_int_int_int_int), [(.tmp 21), (.tmp 23), (.const (.func F_slices_Equal_int_int [] []))]⟩, []⟩, ⟨0, ⟨(some 25), none, (.pure .pick), [(.tmp 19), (.tmp 24), (.const (.bool false))]⟩, []⟩, ⟨0, ⟨(some 4), none, (.pure .id), [(.tmp 25)]⟩, []⟩]) .ret)))⟩
theorem c_prefix_SameDqbf : compF Try.prog Try.f26 = some G_prefix_SameDqbf := by kernel_rfl
theorem gc_prefix_SameDqbf {args : List DV} {σ : GS} {Post : DV → GS → Prop} (h : @exB Try.prog ⟨G_prefix_SameDqbf.body⟩ (genv0 args G_prefix_SameDqbf.ntmps) σ ⟨@gretB G_prefix_SameDqbf.results ⟨Post⟩⟩) : GCall Try.prog F_prefix_SameDqbf args σ Post := gcall_ofB seatfollows Try.func26 (by kernel_rfl) c_prefix_SameDqbf h
noncomputable abbrev G_slices_EqualFunc_api_Dep_api_Dep_api_Dep_api_Dep : GFun := ⟨32, [(.tmp 6)], (.seq (.region [⟨0, ⟨(some 6), none, (.pure .id), [(.const (.bool false))]⟩, []⟩]) (.seq (.seq (.region [⟨0, ⟨(some 10), none, (.pure .id), [(.tmp 0)]⟩, []⟩, ⟨0, ⟨(some 11), none, (.pure .len), [(.tmp 10)]⟩, []⟩, ⟨0, ⟨(some 12), none, (.pure .id), [(.tmp 1)]⟩, []⟩, ⟨0, ⟨(some 13), none, (.pure .len), [(.tmp 12)]⟩, []⟩, ⟨0, ⟨(some 14), none, (.pure (.bin .neq .none)), [(.tmp 11), (.tmp 13)]⟩, []⟩]) (.cond (.tmp 14) (.seq (.region [⟨0, ⟨(some 6), none, (.pure .id), [(.const (.bool false))]⟩, []⟩]) .ret) .skip)) (.seq (.seq (.region [⟨0, ⟨(some 15), none, (.pure .id), [(.tmp 0)]⟩, []⟩, ⟨0, ⟨(some 16), none, (.pure .len), [(.tmp 15)]⟩, []⟩, ⟨0, ⟨(some 17), none, (.pure .id), [(.const (.int .i64 0))]⟩, []⟩]) (.block 0 (.loop (.seq (.region [⟨0, ⟨(some 18), none, (.pure (.bin .lss .none)), [(.tmp 17), (.tmp 16)]⟩, []⟩]) (.seq (.cond (.tmp 18) .skip (.exit 0)) (.seq (.block 1 (.seq (.region [⟨0, ⟨(some 19), none, (.pure .id), [(.tmp 17)]⟩, []⟩, ⟨0, ⟨(some 20), none, (.pure (.iaddr 2)), [(.tmp 15), (.tmp 17)]⟩, []⟩, ⟨0, ⟨(some 21), none, (.load (.load 2 true)), [(.tmp 20)]⟩, []⟩, ⟨0, ⟨(some 8), none, (.new (.alloc [(.int .i64 0), .nils])), []⟩, []⟩, ⟨0, ⟨(some 7), none, (.pure .id), [(.tmp 19)]⟩, []⟩, ⟨0, ⟨none, none, (.imp (.store 2)), [(.tmp 8), (.tmp 21)]⟩, []⟩]) (.seq (.region [⟨0, ⟨(some 22), none, (.pure .id), [(.tmp 1)]⟩, []⟩, ⟨0, ⟨(some 23), none, (.pure .id), [(.tmp 7)]⟩, []⟩, ⟨0, ⟨(some 24), none, (.pure (.iaddr 2)), [(.tmp 22), (.tmp 23)]⟩, []⟩, ⟨0, ⟨(some 25), none, (.load (.load 2 true)), [(.tmp 24)]⟩, []⟩, ⟨0, ⟨(some 9), none, (.new (.alloc [(.int .i64 0), .nils])), []⟩, []⟩, ⟨0, ⟨none, none, (.imp (.store 2)), [(.tmp 9), (.tmp 25)]⟩, []⟩]) (.seq (.region [⟨0, ⟨(some 26), none, (.pure .id), [(.tmp 2)]⟩, []⟩, ⟨0, ⟨(some 27), none, (.load (.load 2 true)), [(.tmp 8)]⟩, []⟩, ⟨0, ⟨(some 28), none, (.load (.load 2 true)), [(.tmp 9)]⟩, []⟩, ⟨0, ⟨(some 29), none, .callv, [(.tmp 26), (.tmp 27), (.tmp 28)]⟩, []⟩, ⟨0, ⟨(some 30), none, (.pure (.un .not)), [(.tmp 29)]⟩, []⟩]) (.cond (.tmp 30) (.seq (.region [⟨0, ⟨(some 6), none, (.pure .id), [(.const (.bool false))]⟩, []⟩]) .ret) .skip))))) (.region [⟨0, ⟨(some 31), none, (.pure (.bin .add .none)), [(.tmp 17), (.const (.int .i64 1))]⟩, []⟩, ⟨0, ⟨(some 17), none, (.pure .id), [(.tmp 31)]⟩, []⟩]))))))) (.seq (.region [⟨0, ⟨(some 6), none, (.pure .id), [(.const (.bool true))]⟩, []⟩]) .ret))))⟩
theorem c_slices_EqualFunc_api_Dep_api_Dep_api_Dep_api_Dep : compF Try.prog Try.f55 = some G_slices_EqualFunc_api_Dep_api_Dep_api_Dep_api_Dep := by kernel_rfl
theorem gc_slices_EqualFunc_api_Dep_api_Dep_api_Dep_api_Dep {args : List DV} {σ : GS} {Post : DV → GS → Prop} (h : @exB Try.prog ⟨G_slices_EqualFunc_api_Dep_api_Dep_api_Dep_api_Dep.body⟩ (genv0 args G_slices_EqualFunc_api_Dep_api_Dep_api_Dep_api_Dep.ntmps) σ ⟨@gretB G_slices_EqualFunc_api_Dep_api_Dep_api_Dep_api_Dep.results ⟨Post⟩⟩) : GCall Try.prog F_slices_EqualFunc_api_Dep_api_Dep_api_Dep_api_Dep args σ Post := gcall_ofB seatfollows Try.func55 (by kernel_rfl) c_slices_EqualFunc_api_Dep_api_Dep_api_Dep_api_Dep h
noncomputable abbrev G_prefix_SameDqbf_1 : GFun := ⟨17, [(.tmp 4)], (.seq (.region [⟨0, ⟨(some 2), none, (.new .box), [(.tmp 0)]⟩, []⟩, ⟨0, ⟨(some 3), none, (.new .box), [(.tmp 1)]⟩, []⟩, ⟨0, ⟨(some 4), none, (.pure .id), [(.const (.bool false))]⟩, []⟩]) (.seq (.region [⟨0, ⟨(some 5), none, (.pure (.faddr 0)), [(.tmp 2)]⟩, []⟩, ⟨0, ⟨(some 6), none, (.load (.load 1 false)), [(.tmp 5)]⟩, []⟩, ⟨0, ⟨(some 7), none, (.pure (.faddr 0)), [(.tmp 3)]⟩, []⟩, ⟨0, ⟨(some 8), none, (.load (.load 1 false)), [(.tmp 7)]⟩, []⟩, ⟨0, ⟨(some 9), none, (.pure (.bin .eql .none)), [(.tmp 6), (.tmp 8)]⟩, []⟩, ⟨0, ⟨(some 10), none, (.pure .id), [(.tmp 9)]⟩, []⟩, ⟨0, ⟨(some 11), (some (10, true)), (.pure (.faddr 1)), [(.tmp 2)]⟩, []⟩, ⟨0, ⟨(some 12), (some (10, true)), (.load (.load 1 false)), [(.tmp 11)]⟩, []⟩, ⟨0, ⟨(some 13), (some (10, true)), (.pure (.faddr 1)), [(.tmp 3)]⟩, []⟩, ⟨0, ⟨(some 14), (some (10, true)), (.load (.load 1 false)), [(.tmp 13)]⟩, []⟩, ⟨0, ⟨(some 15), (some (10, true)), (.call F_slices_Equal_int_int), [(.tmp 12), (.tmp 14)]⟩, []⟩, ⟨0, ⟨(some 16), none, (.pure .pick), [(.tmp 10), (.tmp 15), (.const (.bool false))]⟩, []⟩, ⟨0, ⟨(some 4), none, (.pure .id), [(.tmp 16)]⟩, []⟩]) .ret))⟩
theorem c_prefix_SameDqbf_1 : compF Try.prog Try.f56 = some G_prefix_SameDqbf_1 := by kernel_rfl
theorem gc_prefix_SameDqbf_1 {args : List DV} {σ : GS} {Post : DV → GS → Prop} (h : @exB Try.prog ⟨G_prefix_SameDqbf_1.body⟩ (genv0 args G_prefix_SameDqbf_1.ntmps) σ ⟨@gretB G_prefix_SameDqbf_1.results ⟨Post⟩⟩) : GCall Try.prog F_prefix_SameDqbf_1 args σ Post := gcall_ofB seatfollows Try.func56 (by kernel_rfl) c_prefix_SameDqbf_1 h
noncomputable abbrev G_slices_Equal_int_int : GFun := ⟨26, [(.tmp 4)], (.seq (.region [⟨0, ⟨(some 4), none, (.pure .id), [(.const (.bool false))]⟩, []⟩]) (.seq (.seq (.region [⟨0, ⟨(some 6), none, (.pure .id), [(.tmp 0)]⟩, []⟩, ⟨0, ⟨(some 7), none, (.pure .len), [(.tmp 6)]⟩, []⟩, ⟨0, ⟨(some 8), none, (.pure .id), [(.tmp 1)]⟩, []⟩, ⟨0, ⟨(some 9), none, (.pure .len), [(.tmp 8)]⟩, []⟩, ⟨0, ⟨(some 10), none, (.pure (.bin .neq .none)), [(.tmp 7), (.tmp 9)]⟩, []⟩]) (.cond (.tmp 10) (.seq (.region [⟨0, ⟨(some 4), none, (.pure .id), [(.const (.bool false))]⟩, []⟩]) .ret) .skip)) (.seq (.seq (.region [⟨0, ⟨(some 11), none, (.pure .id), [(.tmp 0)]⟩, []⟩, ⟨0, ⟨(some 12), none, (.pure .len), [(.tmp 11)]⟩, []⟩, ⟨0, ⟨(some 13), none, (.pure .id), [(.const (.int .i64 0))]⟩, []⟩]) (.block 0 (.loop (.seq (.region [⟨0, ⟨(some 14), none, (.pure (.bin .lss .none)), [(.tmp 13), (.tmp 12)]⟩, []⟩]) (.seq (.cond (.tmp 14) .skip (.exit 0)) (.seq (.block 1 (.seq (.region [⟨0, ⟨(some 15), none, (.pure .id), [(.tmp 13)]⟩, []⟩, ⟨0, ⟨(some 5), none, (.pure .id), [(.tmp 15)]⟩, []⟩]) (.seq (.region [⟨0, ⟨(some 16), none, (.pure .id), [(.tmp 0)]⟩, []⟩, ⟨1, ⟨(some 17), none, (.pure .id), [(.tmp 5)]⟩, []⟩, ⟨2, ⟨(some 18), none, (.pure (.iaddr 1)), [(.tmp 16), (.tmp 17)]⟩, []⟩, ⟨3, ⟨(some 19), none, (.load (.load 1 false)), [(.tmp 18)]⟩, []⟩, ⟨4, ⟨(some 20), none, (.pure .id), [(.tmp 1)]⟩, []⟩, ⟨5, ⟨(some 21), none, (.pure .id), [(.tmp 5)]⟩, []⟩, ⟨6, ⟨(some 22), none, (.pure (.iaddr 1)), [(.tmp 20), (.tmp 21)]⟩, []⟩, ⟨7, ⟨(some 23), none, (.load (.load 1 false)), [(.tmp 22)]⟩, []⟩, ⟨8, ⟨(some 24), none, (.pure (.bin .neq .none)), [(.tmp 19), (.tmp 23)]⟩, []⟩]) (.cond (.tmp 24) (.seq (.region [⟨0, ⟨(some 4), none, (.pure .id), [(.const (.bool false))]⟩, []⟩]) .ret) .skip)))) (.region [⟨0, ⟨(some 25), none, (.pure (.bin .add .none)), [(.tmp 13), (.const (.int .i64 1))]⟩, []⟩, ⟨0, ⟨(some 13), none, (.pure .id), [(.tmp 25)]⟩, []⟩]))))))) (.seq (.region [⟨0, ⟨(some 4), none, (.pure .id), [(.const (.bool true))]⟩, []⟩]) .ret))))⟩
theorem c_slices_Equal_int_int : compF Try.prog Try.f57 = some G_slices_Equal_int_int := by kernel_rfl
theorem gc_slices_Equal_int_int {args : List DV} {σ : GS} {Post : DV → GS → Prop} (h : @exB Try.prog ⟨G_slices_Equal_int_int.body⟩ (genv0 args G_slices_Equal_int_int.ntmps) σ ⟨@gretB G_slices_Equal_int_int.results ⟨Post⟩⟩) : GCall Try.prog F_slices_Equal_int_int args σ Post := gcall_ofB seatfollows Try.func57 (by kernel_rfl) c_slices_Equal_int_int h
noncomputable abbrev G_slices_EqualFunc_int_int_int_int : GFun := ⟨32, [(.tmp 6)], (.seq (.region [⟨0, ⟨(some 6), none, (.pure .id), [(.const (.bool false))]⟩, []⟩]) (.seq (.seq (.region [⟨0, ⟨(some 10), none, (.pure .id), [(.tmp 0)]⟩, []⟩, ⟨0, ⟨(some 11), none, (.pure .len), [(.tmp 10)]⟩, []⟩, ⟨0, ⟨(some 12), none, (.pure .id), [(.tmp 1)]⟩, []⟩, ⟨0, ⟨(some 13), none, (.pure .len), [(.tmp 12)]⟩, []⟩, ⟨0, ⟨(some 14), none, (.pure (.bin .neq .none)), [(.tmp 11), (.tmp 13)]⟩, []⟩]) (.cond (.tmp 14) (.seq (.region [⟨0, ⟨(some 6), none, (.pure .id), [(.const (.bool false))]⟩, []⟩]) .ret) .skip)) (.seq (.seq (.region [⟨0, ⟨(some 15), none, (.pure .id), [(.tmp 0)]⟩, []⟩, ⟨0, ⟨(some 16), none, (.pure .len), [(.tmp 15)]⟩, []⟩, ⟨0, ⟨(some 17), none, (.pure .id), [(.const (.int .i64 0))]⟩, []⟩]) (.block 0 (.loop (.seq (.region [⟨0, ⟨(some 18), none, (.pure (.bin .lss .none)), [(.tmp 17), (.tmp 16)]⟩, []⟩]) (.seq (.cond (.tmp 18) .skip (.exit 0)) (.seq (.block 1 (.seq (.region [⟨0, ⟨(some 19), none, (.pure .id), [(.tmp 17)]⟩, []⟩, ⟨0, ⟨(some 20), none, (.pure (.iaddr 1)), [(.tmp 15), (.tmp 17)]⟩, []⟩, ⟨0, ⟨(some 21), none, (.load (.load 1 false)), [(.tmp 20)]⟩, []⟩, ⟨0, ⟨(some 7), none, (.pure .id), [(.tmp 19)]⟩, []⟩, ⟨0, ⟨(some 8), none, (.pure .id), [(.tmp 21)]⟩, []⟩]) (.seq (.region [⟨0, ⟨(some 22), none, (.pure .id), [(.tmp 1)]⟩, []⟩, ⟨0, ⟨(some 23), none, (.pure .id), [(.tmp 7)]⟩, []⟩, ⟨0, ⟨(some 24), none, (.pure (.iaddr 1)), [(.tmp 22), (.tmp 23)]⟩, []⟩, ⟨0, ⟨(some 25), none, (.load (.load 1 false)), [(.tmp 24)]⟩, []⟩, ⟨0, ⟨(some 9), none, (.pure .id), [(.tmp 25)]⟩, []⟩]) (.seq (.region [⟨0, ⟨(some 26), none, (.pure .id), [(.tmp 2)]⟩, []⟩, ⟨0, ⟨(some 27), none, (.pure .id), [(.tmp 8)]⟩, []⟩, ⟨0, ⟨(some 28), none, (.pure .id), [(.tmp 9)]⟩, []⟩, ⟨0, ⟨(some 29), none, .callv, [(.tmp 26), (.tmp 27), (.tmp 28)]⟩, []⟩, ⟨0, ⟨(some 30), none, (.pure (.un .not)), [(.tmp 29)]⟩, []⟩]) (.cond (.tmp 30) (.seq (.region [⟨0, ⟨(some 6), none, (.pure .id), [(.const (.bool false))]⟩, []⟩]) .ret) .skip))))) (.region [⟨0, ⟨(some 31), none, (.pure (.bin .add .none)), [(.tmp 17), (.const (.int .i64 1))]⟩, []⟩, ⟨0, ⟨(some 17), none, (.pure .id), [(.tmp 31)]⟩, []⟩]))))))) (.seq (.region [⟨0, ⟨(some 6), none, (.pure .id), [(.const (.bool true))]⟩, []⟩]) .ret))))⟩
theorem c_slices_EqualFunc_int_int_int_int : compF Try.prog Try.f58 = some G_slices_EqualFunc_int_int_int_int := by kernel_rfl
theorem gc_slices_EqualFunc_int_int_int_int {args : List DV} {σ : GS} {Post : DV → GS → Prop} (h : @exB Try.prog ⟨G_slices_EqualFunc_int_int_int_int.body⟩ (genv0 args G_slices_EqualFunc_int_int_int_int.ntmps) σ ⟨@gretB G_slices_EqualFunc_int_int_int_int.results ⟨Post⟩⟩) : GCall Try.prog F_slices_EqualFunc_int_int_int_int args σ Post := gcall_ofB seatfollows Try.func58 (by kernel_rfl) c_slices_EqualFunc_int_int_int_int h
noncomputable abbrev G_skolemref03_SameDqbf : GFun := ⟨65, [(.tmp 4)], (.seq (.region [⟨0, ⟨(some 2), none, (.new .box), [(.tmp 0)]⟩, []⟩, ⟨0, ⟨(some 3), none, (.new .box), [(.tmp 1)]⟩, []⟩, ⟨0, ⟨(some 4), none, (.pure .id), [(.const (.bool false))]⟩, []⟩]) (.seq (.seq (.region [⟨0, ⟨(some 6), none, (.pure (.faddr 0)), [(.tmp 2)]⟩, []⟩, ⟨0, ⟨(some 7), none, (.load (.load 1 false)), [(.tmp 6)]⟩, []⟩, ⟨0, ⟨(some 8), none, (.pure (.faddr 0)), [(.tmp 3)]⟩, []⟩, ⟨0, ⟨(some 9), none, (.load (.load 1 false)), [(.tmp 8)]⟩, []⟩, ⟨0, ⟨(some 10), none, (.call F_skolemref03_Ints), [(.tmp 7), (.tmp 9)]⟩, []⟩, ⟨0, ⟨(some 11), none, (.pure (.un .not)), [(.tmp 10)]⟩, []⟩, ⟨0, ⟨(some 12), none, (.pure .id), [(.tmp 11)]⟩, []⟩, ⟨0, ⟨(some 13), (some (12, false)), (.pure (.faddr 1)), [(.tmp 2)]⟩, []⟩, ⟨0, ⟨(some 14), (some (12, false)), (.load (.load 1 false)), [(.tmp 13)]⟩, []⟩, ⟨0, ⟨(some 15), (some (12, false)), (.pure .len), [(.tmp 14)]⟩, []⟩, ⟨0, ⟨(some 16), (some (12, false)), (.pure (.faddr 1)), [(.tmp 3)]⟩, []⟩, ⟨0, ⟨(some 17), (some (12, false)), (.load (.load 1 false)), [(.tmp 16)]⟩, []⟩, ⟨0, ⟨(some 18), (some (12, false)), (.pure .len), [(.tmp 17)]⟩, []⟩, ⟨0, ⟨(some 19), (some (12, false)), (.pure (.bin .neq .none)), [(.tmp 15), (.tmp 18)]⟩, []⟩, ⟨0, ⟨(some 20), none, (.pure .pick), [(.tmp 12), (.const (.bool true)), (.tmp 19)]⟩, []⟩, ⟨0, ⟨(some 21), none, (.pure .id), [(.tmp 20)]⟩, []⟩, ⟨0, ⟨(some 22), (some (21, false)), (.pure (.faddr 2)), [(.tmp 2)]⟩, []⟩, ⟨0, ⟨(some 23), (some (21, false)), (.load (.load 1 false)), [(.tmp 22)]⟩, []⟩, ⟨0, ⟨(some 24), (some (21, false)), (.pure (.faddr 2)), [(.tmp 3)]⟩, []⟩, ⟨0, ⟨(some 25), (some (21, false)), (.load (.load 1 false)), [(.tmp 24)]⟩, []⟩, ⟨0, ⟨(some 26), (some (21, false)), (.call F_skolemref03_Lists), [(.tmp 23), (.tmp 25)]⟩, []⟩, ⟨0, ⟨(some 27), (some (21, false)), (.pure (.un .not)), [(.tmp 26)]⟩, []⟩, ⟨0, ⟨(some 28), none, (.pure .pick), [(.tmp 21), (.const (.bool true)), (.tmp 27)]⟩, []⟩]) (.cond (.tmp 28) (.seq (.region [⟨0, ⟨(some 4), none, (.pure .id), [(.const (.bool false))]⟩, []⟩]) .ret) .skip)) (.seq (.seq (.region [⟨0, ⟨(some 5), none, (.pure .id), [(.const (.int .i64 0))]⟩, []⟩]) (.block 0 (.loop (.seq (.seq (.region [⟨0, ⟨(some 29), none, (.pure .id), [(.tmp 5)]⟩, []⟩, ⟨0, ⟨(some 30), none, (.pure (.faddr 1)), [(.tmp 2)]⟩, []⟩, ⟨0, ⟨(some 31), none, (.load (.load 1 false)), [(.tmp 30)]⟩, []⟩, ⟨0, ⟨(some 32), none, (.pure .len), [(.tmp 31)]⟩, []⟩, ⟨0, ⟨(some 33), none, (.pure (.bin .lss .none)), [(.tmp 29), (.tmp 32)]⟩, []⟩]) (.cond (.tmp 33) .skip (.exit 0))) (.seq (.block 1 (.seq (.region [⟨0, ⟨(some 36), none, (.pure (.faddr 1)), [(.tmp 2)]⟩, []⟩, ⟨1, ⟨(some 37), none, (.load (.load 1 false)), [(.tmp 36)]⟩, []⟩, ⟨2, ⟨(some 38), none, (.pure .id), [(.tmp 5)]⟩, []⟩, ⟨3, ⟨(some 39), none, (.pure (.iaddr 2)), [(.tmp 37), (.tmp 38)]⟩, []⟩, ⟨4, ⟨(some 40), none, (.pure (.faddr 0)), [(.tmp 39)]⟩, []⟩, ⟨5, ⟨(some 41), none, (.load (.load 1 false)), [(.tmp 40)]⟩, []⟩, ⟨6, ⟨(some 42), none, (.pure (.faddr 1)), [(.tmp 3)]⟩, []⟩, ⟨7, ⟨(some 43), none, (.load (.load 1 false)), [(.tmp 42)]⟩, []⟩, ⟨8, ⟨(some 44), none, (.pure .id), [(.tmp 5)]⟩, []⟩, ⟨9, ⟨(some 45), none, (.pure (.iaddr 2)), [(.tmp 43), (.tmp 44)]⟩, []⟩, ⟨10, ⟨(some 46), none, (.pure (.faddr 0)), [(.tmp 45)]⟩, []⟩, ⟨11, ⟨(some 47), none, (.load (.load 1 false)), [(.tmp 46)]⟩, []⟩, ⟨12, ⟨(some 48), none, (.pure (.bin .neq .none)), [(.tmp 41), (.tmp 47)]⟩, []⟩, ⟨13, ⟨(some 49), none, (.pure .id), [(.tmp 48)]⟩, []⟩, ⟨14, ⟨(some 50), (some (49, false)), (.pure (.faddr 1)), [(.tmp 2)]⟩, []⟩, ⟨15, ⟨(some 51), (some (49, false)), (.load (.load 1 false)), [(.tmp 50)]⟩, []⟩, ⟨16, ⟨(some 52), (some (49, false)), (.pure .id), [(.tmp 5)]⟩, []⟩, ⟨17, ⟨(some 53), (some (49, false)), (.pure (.iaddr 2)), [(.tmp 51), (.tmp 52)]⟩, []⟩, ⟨18, ⟨(some 54), (some (49, false)), (.pure (.faddr 1)), [(.tmp 53)]⟩, []⟩, ⟨19, ⟨(some 55), (some (49, false)), (.load (.load 1 false)), [(.tmp 54)]⟩, []⟩, ⟨20, ⟨(some 56), (some (49, false)), (.pure (.faddr 1)), [(.tmp 3)]⟩, []⟩, ⟨21, ⟨(some 57), (some (49, false)), (.load (.load 1 false)), [(.tmp 56)]⟩, []⟩, ⟨22, ⟨(some 58), (some (49, false)), (.pure .id), [(.tmp 5)]⟩, []⟩, ⟨23, ⟨(some 59), (some (49, false)), (.pure (.iaddr 2)), [(.tmp 57), (.tmp 58)]⟩, []⟩, ⟨24, ⟨(some 60), (some (49, false)), (.pure (.faddr 1)), [(.tmp 59)]⟩, []⟩, ⟨25, ⟨(some 61), (some (49, false)), (.load (.load 1 false)), [(.tmp 60)]⟩, []⟩, ⟨26, ⟨(some 62), (some (49, false)), (.call F_skolemref03_Ints), [(.tmp 55), (.tmp 61)]⟩, []⟩, ⟨27, ⟨(some 63), (some (49, false)), (.pure (.un .not)), [(.tmp 62)]⟩, []⟩, ⟨28, ⟨(some 64), none, (.pure .pick), [(.tmp 49), (.const (.bool true)), (.tmp 63)]⟩, []⟩]) (.cond (.tmp 64) (.seq (.region [⟨0, ⟨(some 4), none, (.pure .id), [(.const (.bool false))]⟩, []⟩]) .ret) .skip))) (.region [⟨0, ⟨(some 34), none, (.pure .id), [(.tmp 5)]⟩, []⟩, ⟨0, ⟨(some 35), none, (.pure (.bin .add .none)), [(.tmp 34), (.const (.int .i64 1))]⟩, []⟩, ⟨0, ⟨(some 5), none, (.pure .id), [(.tmp 35)]⟩, []⟩])))))) (.seq (.region [⟨0, ⟨(some 4), none, (.pure .id), [(.const (.bool true))]⟩, []⟩]) .ret))))⟩
theorem c_skolemref03_SameDqbf : compF Try.prog Try.f27 = some G_skolemref03_SameDqbf := by kernel_rfl
theorem gc_skolemref03_SameDqbf {args : List DV} {σ : GS} {Post : DV → GS → Prop} (h : @exB Try.prog ⟨G_skolemref03_SameDqbf.body⟩ (genv0 args G_skolemref03_SameDqbf.ntmps) σ ⟨@gretB G_skolemref03_SameDqbf.results ⟨Post⟩⟩) : GCall Try.prog F_skolemref03_SameDqbf args σ Post := gcall_ofB seatfollows Try.func27 (by kernel_rfl) c_skolemref03_SameDqbf h
noncomputable abbrev G_skolemref03_Ints : GFun := ⟨26, [(.tmp 4)], (.seq (.region [⟨0, ⟨(some 4), none, (.pure .id), [(.const (.bool false))]⟩, []⟩]) (.seq (.seq (.region [⟨0, ⟨(some 6), none, (.pure .id), [(.tmp 0)]⟩, []⟩, ⟨0, ⟨(some 7), none, (.pure .len), [(.tmp 6)]⟩, []⟩, ⟨0, ⟨(some 8), none, (.pure .id), [(.tmp 1)]⟩, []⟩, ⟨0, ⟨(some 9), none, (.pure .len), [(.tmp 8)]⟩, []⟩, ⟨0, ⟨(some 10), none, (.pure (.bin .neq .none)), [(.tmp 7), (.tmp 9)]⟩, []⟩]) (.cond (.tmp 10) (.seq (.region [⟨0, ⟨(some 4), none, (.pure .id), [(.const (.bool false))]⟩, []⟩]) .ret) .skip)) (.seq (.seq (.region [⟨0, ⟨(some 5), none, (.pure .id), [(.const (.int .i64 0))]⟩, []⟩]) (.block 0 (.loop (.seq (.seq (.region [⟨0, ⟨(some 11), none, (.pure .id), [(.tmp 5)]⟩, []⟩, ⟨0, ⟨(some 12), none, (.pure .id), [(.tmp 0)]⟩, []⟩, ⟨0, ⟨(some 13), none, (.pure .len), [(.tmp 12)]⟩, []⟩, ⟨0, ⟨(some 14), none, (.pure (.bin .lss .none)), [(.tmp 11), (.tmp 13)]⟩, []⟩]) (.cond (.tmp 14) .skip (.exit 0))) (.seq (.block 1 (.seq (.region [⟨0, ⟨(some 17), none, (.pure .id), [(.tmp 0)]⟩, []⟩, ⟨1, ⟨(some 18), none, (.pure .id), [(.tmp 5)]⟩, []⟩, ⟨2, ⟨(some 19), none, (.pure (.iaddr 1)), [(.tmp 17), (.tmp 18)]⟩, []⟩, ⟨3, ⟨(some 20), none, (.load (.load 1 false)), [(.tmp 19)]⟩, []⟩, ⟨4, ⟨(some 21), none, (.pure .id), [(.tmp 1)]⟩, []⟩, ⟨5, ⟨(some 22), none, (.pure .id), [(.tmp 5)]⟩, []⟩, ⟨6, ⟨(some 23), none, (.pure (.iaddr 1)), [(.tmp 21), (.tmp 22)]⟩, []⟩, ⟨7, ⟨(some 24), none, (.load (.load 1 false)), [(.tmp 23)]⟩, []⟩, ⟨8, ⟨(some 25), none, (.pure (.bin .neq .none)), [(.tmp 20), (.tmp 24)]⟩, []⟩]) (.cond (.tmp 25) (.seq (.region [⟨0, ⟨(some 4), none, (.pure .id), [(.const (.bool false))]⟩, []⟩]) .ret) .skip))) (.region [⟨0, ⟨(some 15), none, (.pure .id), [(.tmp 5)]⟩, []⟩, ⟨0, ⟨(some 16), none, (.pure (.bin .add .none)), [(.tmp 15), (.const (.int .i64 1))]⟩, []⟩, ⟨0, ⟨(some 5), none, (.pure .id), [(.tmp 16)]⟩, []⟩])))))) (.seq (.region [⟨0, ⟨(some 4), none, (.pure .id), [(.const (.bool true))]⟩, []⟩]) .ret))))⟩
theorem c_skolemref03_Ints : compF Try.prog Try.f18 = some G_skolemref03_Ints := by kernel_rfl
theorem gc_skolemref03_Ints {args : List DV} {σ : GS} {Post : DV → GS → Prop} (h : @exB Try.prog ⟨G_skolemref03_Ints.body⟩ (genv0 args G_skolemref03_Ints.ntmps) σ ⟨@gretB G_skolemref03_Ints.results ⟨Post⟩⟩) : GCall Try.prog F_skolemref03_Ints args σ Post := gcall_ofB seatfollows Try.func18 (by kernel_rfl) c_skolemref03_Ints h
noncomputable abbrev G_skolemref03_Lists : GFun := ⟨27, [(.tmp 4)], (.seq (.region [⟨0, ⟨(some 4), none, (.pure .id), [(.const (.bool false))]⟩, []⟩]) (.seq (.seq (.region [⟨0, ⟨(some 6), none, (.pure .id), [(.tmp 0)]⟩, []⟩, ⟨0, ⟨(some 7), none, (.pure .len), [(.tmp 6)]⟩, []⟩, ⟨0, ⟨(some 8), none, (.pure .id), [(.tmp 1)]⟩, []⟩, ⟨0, ⟨(some 9), none, (.pure .len), [(.tmp 8)]⟩, []⟩, ⟨0, ⟨(some 10), none, (.pure (.bin .neq .none)), [(.tmp 7), (.tmp 9)]⟩, []⟩]) (.cond (.tmp 10) (.seq (.region [⟨0, ⟨(some 4), none, (.pure .id), [(.const (.bool false))]⟩, []⟩]) .ret) .skip)) (.seq (.seq (.region [⟨0, ⟨(some 5), none, (.pure .id), [(.const (.int .i64 0))]⟩, []⟩]) (.block 0 (.loop (.seq (.seq (.region [⟨0, ⟨(some 11), none, (.pure .id), [(.tmp 5)]⟩, []⟩, ⟨0, ⟨(some 12), none, (.pure .id), [(.tmp 0)]⟩, []⟩, ⟨0, ⟨(some 13), none, (.pure .len), [(.tmp 12)]⟩, []⟩, ⟨0, ⟨(some 14), none, (.pure (.bin .lss .none)), [(.tmp 11), (.tmp 13)]⟩, []⟩]) (.cond (.tmp 14) .skip (.exit 0))) (.seq (.block 1 (.seq (.region [⟨0, ⟨(some 17), none, (.pure .id), [(.tmp 0)]⟩, []⟩, ⟨1, ⟨(some 18), none, (.pure .id), [(.tmp 5)]⟩, []⟩, ⟨2, ⟨(some 19), none, (.pure (.iaddr 1)), [(.tmp 17), (.tmp 18)]⟩, []⟩, ⟨3, ⟨(some 20), none, (.load (.load 1 false)), [(.tmp 19)]⟩, []⟩, ⟨4, ⟨(some 21), none, (.pure .id), [(.tmp 1)]⟩, []⟩, ⟨5, ⟨(some 22), none, (.pure .id), [(.tmp 5)]⟩, []⟩, ⟨6, ⟨(some 23), none, (.pure (.iaddr 1)), [(.tmp 21), (.tmp 22)]⟩, []⟩, ⟨7, ⟨(some 24), none, (.load (.load 1 false)), [(.tmp 23)]⟩, []⟩, ⟨8, ⟨(some 25), none, (.call F_skolemref03_Ints), [(.tmp 20), (.tmp 24)]⟩, []⟩, ⟨9, ⟨(some 26), none, (.pure (.un .not)), [(.tmp 25)]⟩, []⟩]) (.cond (.tmp 26) (.seq (.region [⟨0, ⟨(some 4), none, (.pure .id), [(.const (.bool false))]⟩, []⟩]) .ret) .skip))) (.region [⟨0, ⟨(some 15), none, (.pure .id), [(.tmp 5)]⟩, []⟩, ⟨0, ⟨(some 16), none, (.pure (.bin .add .none)), [(.tmp 15), (.const (.int .i64 1))]⟩, []⟩, ⟨0, ⟨(some 5), none, (.pure .id), [(.tmp 16)]⟩, []⟩])))))) (.seq (.region [⟨0, ⟨(some 4), none, (.pure .id), [(.const (.bool true))]⟩, []⟩]) .ret))))⟩
theorem c_skolemref03_Lists : compF Try.prog Try.f50 = some G_skolemref03_Lists := by kernel_rfl
theorem gc_skolemref03_Lists {args : List DV} {σ : GS} {Post : DV → GS → Prop} (h : @exB Try.prog ⟨G_skolemref03_Lists.body⟩ (genv0 args G_skolemref03_Lists.ntmps) σ ⟨@gretB G_skolemref03_Lists.results ⟨Post⟩⟩) : GCall Try.prog F_skolemref03_Lists args σ Post := gcall_ofB seatfollows Try.func50 (by kernel_rfl) c_skolemref03_Lists h
end Go.Gh
namespace Go.Gh
open Go.RowKit Go.Proofs
set_option linter.unusedVariables false
set_option linter.unusedSimpArgs false
set_option maxRecDepth 100000
theorem p_Equal_ok {xs ys : List Int} {σ : GS} {Post : DV → GS → Prop} (hl : xs.length < 2 ^ 60) (h : Post (.bool (decide (xs = ys))) σ) : GCall Try.prog F_slices_Equal_int_int [fints xs, fints ys] σ Post := by
  refine gc_slices_Equal_int_int ?_
  by_cases hlen : xs.length = ys.length
  rotate_left
  · have hne : xs ≠ ys := fun e => hlen (by rw [e])
    have hlen' : ¬ ((xs.length : Int) = ys.length) := by omega
    simp [G_slices_Equal_int_int, genv0, List.replicate, hlen']
    simpa [hne] using h
  simp [G_slices_Equal_int_int, genv0, List.replicate, hlen]
  refine gfor xs.length (fun i e σ' => σ' = σ ∧ (xs = ys ↔ xs.drop i = ys.drop i) ∧ e = mkEnv 26 [(0, fints xs), (1, fints ys), (12, .int .i64 xs.length), (13, .int .i64 i)]) _ ?_ ⟨rfl, by simp, rfl⟩ ?_
  · simp [mkEnv, List.replicate, hlen]
  rintro i _ _ hi ⟨rfl, hI, rfl⟩
  simp [mkEnv, List.replicate]
  by_cases hlt : i < xs.length
  · obtain ⟨x, hx⟩ := nth_lt hlt
    obtain ⟨y, hy⟩ := nth_lt (l := ys) (i := i) (by omega)
    rw [drop_get hx, drop_get hy, List.cons.injEq] at hI
    have es : IntKind.i64.wrap ((i : Int) + 1) = (i : Int) + 1 := by rw [wrap_small] <;> omega
    by_cases c : x = y
    · simp [hlt, hx, hy, c, es]
      exact forK_go _ hlt (by simp [mkEnv, List.replicate]) ⟨rfl, by rw [hI]; simp [c], rfl⟩
    · have hne : xs ≠ ys := fun e => c (hI.1 e).1
      simp [hlt, hx, hy, c]
      simpa [hne] using h
  · have : i = xs.length := by omega
    subst this
    have he : xs = ys := hI.2 (by rw [List.drop_length, hlen, List.drop_length])
    simp
    simpa [he] using h
theorem r_Ints_ok {xs ys : List Int} {σ : GS} {Post : DV → GS → Prop} (hl : xs.length < 2 ^ 60) (h : Post (.bool (decide (xs = ys))) σ) : GCall Try.prog F_skolemref03_Ints [fints xs, fints ys] σ Post := by
  refine gc_skolemref03_Ints ?_
  by_cases hlen : xs.length = ys.length
  rotate_left
  · have hne : xs ≠ ys := fun e => hlen (by rw [e])
    have hlen' : ¬ ((xs.length : Int) = ys.length) := by omega
    simp [G_skolemref03_Ints, genv0, List.replicate, hlen']
    simpa [hne] using h
  simp [G_skolemref03_Ints, genv0, List.replicate, hlen]
  refine gfor xs.length (fun i e σ' => σ' = σ ∧ (xs = ys ↔ xs.drop i = ys.drop i) ∧ e = mkEnv 26 [(0, fints xs), (1, fints ys), (5, .int .i64 i)]) _ ?_ ⟨rfl, by simp, rfl⟩ ?_
  · simp [mkEnv, List.replicate]
  rintro i _ _ hi ⟨rfl, hI, rfl⟩
  simp [mkEnv, List.replicate]
  by_cases hlt : i < xs.length
  · obtain ⟨x, hx⟩ := nth_lt hlt
    obtain ⟨y, hy⟩ := nth_lt (l := ys) (i := i) (by omega)
    rw [drop_get hx, drop_get hy, List.cons.injEq] at hI
    have es : IntKind.i64.wrap ((i : Int) + 1) = (i : Int) + 1 := by rw [wrap_small] <;> omega
    by_cases c : x = y
    · simp [hlt, hx, hy, c, es]
      exact forK_go _ hlt (by simp [mkEnv, List.replicate]) ⟨rfl, by rw [hI]; simp [c], rfl⟩
    · have hne : xs ≠ ys := fun e => c (hI.1 e).1
      simp [hlt, hx, hy, c]
      simpa [hne] using h
  · have : i = xs.length := by omega
    subst this
    have he : xs = ys := hI.2 (by rw [List.drop_length, hlen, List.drop_length])
    simp
    simpa [he] using h
theorem r_Lists_ok {xs ys : List (List Int)} {σ : GS} {Post : DV → GS → Prop} (hl : ClsSm xs) (h : Post (.bool (decide (xs = ys))) σ) : GCall Try.prog F_skolemref03_Lists [fcls xs, fcls ys] σ Post := by
  obtain ⟨hl1, hl2⟩ := hl
  refine gc_skolemref03_Lists ?_
  by_cases hlen : xs.length = ys.length
  rotate_left
  · have hne : xs ≠ ys := fun e => hlen (by rw [e])
    have hlen' : ¬ ((xs.length : Int) = ys.length) := by omega
    simp [G_skolemref03_Lists, genv0, List.replicate, hlen']
    simpa [hne] using h
  simp [G_skolemref03_Lists, genv0, List.replicate, hlen]
  refine gfor xs.length (fun i e σ' => σ' = σ ∧ (xs = ys ↔ xs.drop i = ys.drop i) ∧ e = mkEnv 27 [(0, fcls xs), (1, fcls ys), (5, .int .i64 i)]) _ ?_ ⟨rfl, by simp, rfl⟩ ?_
  · simp [mkEnv, List.replicate]
  rintro i _ _ hi ⟨rfl, hI, rfl⟩
  simp [mkEnv, List.replicate]
  by_cases hlt : i < xs.length
  · obtain ⟨x, hx⟩ := nth_lt hlt
    obtain ⟨y, hy⟩ := nth_lt (l := ys) (i := i) (by omega)
    have hx' := nth_get hx
    have hxl := hl2 x (List.mem_of_getElem? hx')
    rw [drop_get hx, drop_get hy, List.cons.injEq] at hI
    have es : IntKind.i64.wrap ((i : Int) + 1) = (i : Int) + 1 := by rw [wrap_small] <;> omega
    simp [hlt, hx, hy]
    refine r_Ints_ok (by omega) ?_
    by_cases c : x = y
    · simp [c, es]
      exact forK_go _ hlt (by simp [mkEnv, List.replicate]) ⟨rfl, by rw [hI]; simp [c], rfl⟩
    · have hne : xs ≠ ys := fun e => c (hI.1 e).1
      simp [c]
      simpa [hne] using h
  · have : i = xs.length := by omega
    subst this
    have he : xs = ys := hI.2 (by rw [List.drop_length, hlen, List.drop_length])
    simp
    simpa [he] using h
theorem p_Equals_ok {xs ys : List (List Int)} {σ : GS} {Post : DV → GS → Prop} (hl : ClsSm xs) (h : Post (.bool (decide (xs = ys))) σ) : GCall Try.prog F_slices_EqualFunc_int_int_int_int [fcls xs, fcls ys, .func F_slices_Equal_int_int [] []] σ Post := by
  obtain ⟨hl1, hl2⟩ := hl
  refine gc_slices_EqualFunc_int_int_int_int ?_
  by_cases hlen : xs.length = ys.length
  rotate_left
  · have hne : xs ≠ ys := fun e => hlen (by rw [e])
    have hlen' : ¬ ((xs.length : Int) = ys.length) := by omega
    simp [G_slices_EqualFunc_int_int_int_int, genv0, List.replicate, hlen']
    simpa [hne] using h
  simp [G_slices_EqualFunc_int_int_int_int, genv0, List.replicate, hlen]
  refine gfor xs.length (fun i e σ' => σ' = σ ∧ (xs = ys ↔ xs.drop i = ys.drop i) ∧ e = mkEnv 32 [(1, fcls ys), (2, .func F_slices_Equal_int_int [] []), (15, fcls xs), (16, .int .i64 xs.length), (17, .int .i64 i)]) _ ?_ ⟨rfl, by simp, rfl⟩ ?_
  · simp [mkEnv, List.replicate, hlen]
  rintro i _ _ hi ⟨rfl, hI, rfl⟩
  simp [mkEnv, List.replicate]
  by_cases hlt : i < xs.length
  · obtain ⟨x, hx⟩ := nth_lt hlt
    obtain ⟨y, hy⟩ := nth_lt (l := ys) (i := i) (by omega)
    have hx' := nth_get hx
    have hxl := hl2 x (List.mem_of_getElem? hx')
    rw [drop_get hx, drop_get hy, List.cons.injEq] at hI
    have es : IntKind.i64.wrap ((i : Int) + 1) = (i : Int) + 1 := by rw [wrap_small] <;> omega
    simp [hlt, hx, hy]
    refine p_Equal_ok (by omega) ?_
    by_cases c : x = y
    · simp [c, es]
      exact forK_go _ hlt (by simp [mkEnv, List.replicate]) ⟨rfl, by rw [hI]; simp [c], rfl⟩
    · have hne : xs ≠ ys := fun e => c (hI.1 e).1
      simp [c]
      simpa [hne] using h
  · have : i = xs.length := by omega
    subst this
    have he : xs = ys := hI.2 (by rw [List.drop_length, hlen, List.drop_length])
    simp
    simpa [he] using h
theorem p_SameDep_ok {x y : Dep} {σ : GS} {Post : DV → GS → Prop} (hl : x.2.length < 2 ^ 60) (h : Post (.bool (decide (x = y))) σ) : GCall Try.prog F_prefix_SameDqbf_1 [.agg (edep x), .agg (edep y)] σ Post := by
  refine GCall.say (r := .bool (decide (x = y))) ?_ rfl h
  refine gc_prefix_SameDqbf_1 ?_
  obtain ⟨a, xs⟩ := x
  obtain ⟨b, ys⟩ := y
  by_cases c : a = b
  · simp [G_prefix_SameDqbf_1, genv0, List.replicate, c]
    refine p_Equal_ok hl ?_
    simp [c]
  · simp [G_prefix_SameDqbf_1, genv0, List.replicate, c]
theorem p_EqDeps_ok {xs ys : List Dep} {σ : GS} {Post : DV → GS → Prop} (hl : DepSm xs) (h : Post (.bool (decide (xs = ys))) σ) : GCall Try.prog F_slices_EqualFunc_api_Dep_api_Dep_api_Dep_api_Dep [fdeps xs, fdeps ys, .func F_prefix_SameDqbf_1 [] []] σ Post := by
  obtain ⟨hl1, hl2⟩ := hl
  refine GCall.say (r := .bool (decide (xs = ys))) ?_ rfl h
  refine gc_slices_EqualFunc_api_Dep_api_Dep_api_Dep_api_Dep ?_
  by_cases hlen : xs.length = ys.length
  rotate_left
  · have hne : xs ≠ ys := fun e => hlen (by rw [e])
    have hlen' : ¬ ((xs.length : Int) = ys.length) := by omega
    simp [G_slices_EqualFunc_api_Dep_api_Dep_api_Dep_api_Dep, genv0, List.replicate, hlen', hne]
    exact .rfl'
  simp [G_slices_EqualFunc_api_Dep_api_Dep_api_Dep_api_Dep, genv0, List.replicate, hlen]
  refine gfor xs.length (fun i e σ' => Fr σ.length σ σ' ∧ (xs = ys ↔ xs.drop i = ys.drop i) ∧ e = mkEnv 32 [(1, fdeps ys), (2, .func F_prefix_SameDqbf_1 [] []), (15, fdeps xs), (16, .int .i64 xs.length), (17, .int .i64 i)]) _ ?_ ⟨.rfl', by simp, rfl⟩ ?_
  · simp [mkEnv, List.replicate, hlen]
  rintro i _ σ1 hi ⟨hF, hI, rfl⟩
  simp [mkEnv, List.replicate]
  by_cases hlt : i < xs.length
  · obtain ⟨x, hx⟩ := nth_lt hlt
    obtain ⟨y, hy⟩ := nth_lt (l := ys) (i := i) (by omega)
    have hx' := nth_get hx
    have hxl := hl2 x (List.mem_of_getElem? hx')
    rw [drop_get hx, drop_get hy, List.cons.injEq] at hI
    have es : IntKind.i64.wrap ((i : Int) + 1) = (i : Int) + 1 := by rw [wrap_small] <;> omega
    simp [hlt, hx, hy]
    refine p_SameDep_ok (x := x) (y := y) (by omega) ?_
    by_cases c : x = y
    · simp [c, es]
      exact forK_go _ hlt (by simp [mkEnv, List.replicate]) ⟨hF.app _, by rw [hI]; simp [c], rfl⟩
    · have hne : xs ≠ ys := fun e => c (hI.1 e).1
      simp [c, hne]
      exact hF.app _
  · have : i = xs.length := by omega
    subst this
    have he : xs = ys := hI.2 (by rw [List.drop_length, hlen, List.drop_length])
    simp [he]
    exact hF
end Go.Gh
namespace Go.Gh
open Go.RowKit Go.Proofs
set_option linter.unusedVariables false
set_option linter.unusedSimpArgs false
set_option maxRecDepth 100000
/-- Two Dqbfs are equal by every field. -/
def sameD (a b : DqbfP) : Bool := decide (a.univ = b.univ ∧ a.exist = b.exist ∧ a.cls = b.cls)
theorem p_SameDqbf_ok {a b : DqbfP} {σ : GS} {Post : DV → GS → Prop} (ha : a.Sm) (h : Post (.bool (sameD a b)) σ) : GCall Try.prog F_prefix_SameDqbf [a.enc, b.enc] σ Post := by
  have h1 := ha.univ
  refine GCall.say (r := .bool (sameD a b)) ?_ rfl h
  refine gc_prefix_SameDqbf ?_
  simp [G_prefix_SameDqbf, genv0, List.replicate]
  refine p_EqDeps_ok ha.exist ?_
  by_cases c1 : a.exist = b.exist
  rotate_left
  · simp [c1, sameD]
  simp [c1]
  refine p_Equal_ok (by omega) ?_
  by_cases c2 : a.univ = b.univ
  rotate_left
  · simp [c1, c2, sameD]
  simp [c2]
  refine p_Equals_ok ha.cls ?_
  simp [sameD, c1, c2]
theorem r_SameDqbf_ok {a b : DqbfP} {σ : GS} {Post : DV → GS → Prop} (ha : a.Sm) (h : Post (.bool (sameD a b)) σ) : GCall Try.prog F_skolemref03_SameDqbf [a.enc, b.enc] σ Post := by
  have h1 := ha.univ
  have h2 := ha.exist.1
  have h3 := ha.exist.2
  refine GCall.say (r := .bool (sameD a b)) ?_ rfl h
  refine gc_skolemref03_SameDqbf ?_
  simp [G_skolemref03_SameDqbf, genv0, List.replicate]
  refine r_Ints_ok (by omega) ?_
  by_cases c2 : a.univ = b.univ
  rotate_left
  · simp [c2, sameD]
  by_cases hlen : a.exist.length = b.exist.length
  rotate_left
  · have hne : a.exist ≠ b.exist := fun e => hlen (by rw [e])
    have hlen' : ¬ ((a.exist.length : Int) = b.exist.length) := by omega
    simp [c2, hlen', hne, sameD]
  simp [c2, hlen]
  refine r_Lists_ok ha.cls ?_
  by_cases c3 : a.cls = b.cls
  rotate_left
  · simp [c3, sameD]
  simp [c3]
  obtain ⟨A, hA⟩ : ∃ A, GObj.row false (edqbf a) = A := ⟨_, rfl⟩
  obtain ⟨B, hB⟩ : ∃ B, GObj.row false (edqbf b) = B := ⟨_, rfl⟩
  rw [hA, hB]
  refine gfor a.exist.length (fun i e σ' => σ' = σ ++ [A, B] ∧ (a.exist = b.exist ↔ a.exist.drop i = b.exist.drop i) ∧ e = mkEnv 65 [(2, .ptr σ.length 0), (3, .ptr (σ.length + 1) 0), (5, .int .i64 i)]) _ ?_ ⟨rfl, by simp, rfl⟩ ?_
  · simp [mkEnv, List.replicate]
  rintro i _ _ hi ⟨rfl, hI, rfl⟩
  simp [mkEnv, List.replicate, ← hA, ← hB]
  by_cases hlt : i < a.exist.length
  · obtain ⟨x, hx⟩ := nth_lt hlt
    obtain ⟨y, hy⟩ := nth_lt (l := b.exist) (i := i) (by omega)
    have hx' := nth_get hx
    have hxl := h3 x (List.mem_of_getElem? hx')
    rw [drop_get hx, drop_get hy, List.cons.injEq] at hI
    have es : IntKind.i64.wrap ((i : Int) + 1) = (i : Int) + 1 := by rw [wrap_small] <;> omega
    obtain ⟨x1, x2⟩ := x
    obtain ⟨y1, y2⟩ := y
    by_cases e1 : x1 = y1
    · simp [hlt, hx, hy, e1]
      refine r_Ints_ok (by simp at hxl; omega) ?_
      by_cases c : x2 = y2
      · simp [c, es]
        exact forK_go _ hlt (by simp [mkEnv, List.replicate]) ⟨by rw [hA, hB], by rw [hI]; simp [c, e1], rfl⟩
      · have hne : a.exist ≠ b.exist := fun e => by have := (hI.1 e).1; simp [c] at this
        simp [c, hne, sameD]
    · have hne : a.exist ≠ b.exist := fun e => by have := (hI.1 e).1; simp [e1] at this
      simp [hlt, hx, hy, e1, hne, sameD]
  · have : i = a.exist.length := by omega
    subst this
    have he : a.exist = b.exist := hI.2 (by rw [List.drop_length, hlen, List.drop_length])
    simp [he, sameD, c2, c3]
/-- Whatever it says of the size. -/
theorem l_wide_any {p : List Blk} {c : List (List Int)} {most : Int} {σ : GS} {Post : DV → GS → Prop} (hp : p.length < 2 ^ 60) (hc : c.length < 2 ^ 60) (h : ∀ b, Post (.bool b) σ) : GCall Try.prog F_skolemlaw03_wide [fblks p, fcls c, .int .i64 most] σ Post := by
  refine gc_skolemlaw03_wide ?_
  simp [G_skolemlaw03_wide, genv0, List.replicate]
  refine gfor p.length (fun i e σ' => σ' = σ ∧ ∃ n, e = mkEnv 45 [(0, fblks p), (1, fcls c), (2, .int .i64 most), (7, .int .i64 n), (8, .int .i64 i)]) _ ?_ ⟨rfl, IntKind.i64.wrap ((p.length : Int) + c.length), rfl⟩ ?_
  · simp [mkEnv, List.replicate]
  rintro i _ σ hi ⟨rfl, n, rfl⟩
  simp [mkEnv, List.replicate]
  by_cases hlt : i < p.length
  · obtain ⟨x, hx⟩ := nth_lt hlt
    have es : IntKind.i64.wrap ((i : Int) + 1) = (i : Int) + 1 := by rw [wrap_small] <;> omega
    simp [hlt, hx, es]
    exact forK_go _ hlt (by simp [mkEnv, List.replicate]) ⟨rfl, IntKind.i64.wrap (n + x.2.length), rfl⟩
  have : i = p.length := by omega
  subst this
  simp
  refine gfor c.length (fun i e σ' => σ' = σ ∧ ∃ n, e = mkEnv 45 [(1, fcls c), (2, .int .i64 most), (7, .int .i64 n), (9, .int .i64 i)]) _ ?_ ⟨rfl, n, rfl⟩ ?_
  · simp [mkEnv, List.replicate]
  rintro i _ _ hi ⟨rfl, n, rfl⟩
  simp [mkEnv, List.replicate]
  by_cases hlt : i < c.length
  · obtain ⟨x, hx⟩ := nth_lt hlt
    have es : IntKind.i64.wrap ((i : Int) + 1) = (i : Int) + 1 := by rw [wrap_small] <;> omega
    simp [hlt, hx, es]
    exact forK_go _ hlt (by simp [mkEnv, List.replicate]) ⟨rfl, IntKind.i64.wrap (n + x.length), rfl⟩
  have : i = c.length := by omega
  subst this
  simp
  exact h _
theorem l_wide_nil {c : List (List Int)} {most : Int} {σ : GS} {Post : DV → GS → Prop} (hc : c.length < 2 ^ 60) (h : ∀ b, Post (.bool b) σ) : GCall Try.prog F_skolemlaw03_wide [.nils, fcls c, .int .i64 most] σ Post := by
  refine GCall.reads (args' := [fblks [], fcls c, .int .i64 most]) (.cons (.nils 2) (.cons (.same _) (.cons (.same _) .nil))) (l_wide_any (by simp) hc h)
theorem l_broad_any {d : DqbfP} {most : Int} {σ : GS} {Post : DV → GS → Prop} (hd : d.Sm) (h : ∀ b, Post (.bool b) σ) : GCall Try.prog F_skolemlaw03_broad [d.enc, .int .i64 most] σ Post := by
  have h1 := hd.exist.1
  have h2 := hd.cls.1
  refine gcall_sayB ?_ h
  refine gc_skolemlaw03_broad ?_
  simp [G_skolemlaw03_broad, genv0, List.replicate]
  obtain ⟨A, hA⟩ : ∃ A, GObj.row false [fints d.univ, fdeps d.exist, fcls d.cls] = A := ⟨_, rfl⟩
  rw [hA]
  refine gfor d.exist.length (fun i e σ' => σ' = σ ++ [A] ∧ ∃ n, e = mkEnv 39 [(1, .int .i64 most), (2, .ptr σ.length 0), (5, .int .i64 n), (6, .int .i64 i)]) _ ?_ ⟨rfl, IntKind.i64.wrap ((d.univ.length : Int) + d.exist.length), rfl⟩ ?_
  · simp [mkEnv, List.replicate]
  rintro i _ _ hi ⟨rfl, n, rfl⟩
  simp [mkEnv, List.replicate, ← hA]
  by_cases hlt : i < d.exist.length
  · obtain ⟨x, hx⟩ := nth_lt hlt
    have es : IntKind.i64.wrap ((i : Int) + 1) = (i : Int) + 1 := by rw [wrap_small] <;> omega
    simp [hlt, hx, es]
    exact forK_go _ hlt (by simp [mkEnv, List.replicate]) ⟨by rw [hA], IntKind.i64.wrap (n + x.2.length), rfl⟩
  have : i = d.exist.length := by omega
  subst this
  by_cases c : most < n
  · simp [c]
  · simp [c]
    refine l_wide_nil (by omega) fun b => ?_
    simp
end Go.Gh
namespace Go.Gh
open Go.RowKit Go.Proofs
set_option linter.unusedVariables false
set_option linter.unusedSimpArgs false
set_option maxRecDepth 100000
theorem sames_ok {a b : DqbfP} (ha : a.Sm) (hb : b.Sm) {σ : GS} {Post : DV → GS → Prop} (h : Post (.bool true) σ) : GCall Try.prog F_skolemlaw03_PrefixSames [a.enc, b.enc] σ Post := by
  refine GCall.say (r := .bool true) ?_ rfl h
  refine gc_skolemlaw03_PrefixSames ?_
  simp [G_skolemlaw03_PrefixSames, genv0, List.replicate]
  refine l_broad_any ha fun b1 => ?_
  cases b1 with
  | true =>
    simp
    refine head_ok ?_
    simp
  | false =>
    simp
    refine l_broad_any hb fun b2 => ?_
    cases b2 with
    | true =>
      simp
      refine head_ok ?_
      simp
    | false =>
      simp
      refine p_SameDqbf_ok ha ?_
      simp
      refine r_SameDqbf_ok ha ?_
      simp
      refine p_SameDqbf_ok hb ?_
      simp
      refine r_SameDqbf_ok hb ?_
      simp
      refine head_ok ?_
      simp
end Go.Gh
