/-
  Proved: of two variables of a valid list of blocks with different quantifiers exactly one is in On of the other, of the same quantifier neither is, and Join of a valid list is that list; where what is read is of bulk at most 1048576.
  Part 5 of 6. Conditions: none. A verified frame that runs compiled texts over a ghost heap, the contracts of the functions that the statement reaches, and the plain law.
-/
import Derived.Test.YtgmmhhbmnfnloaaXD4
import Derived.Test.YtgmmhhbmnfnloaaProg
import Derived.KernelRfl
namespace Go.Gh
open Go.Proofs
theorem seatfollows : Try.prog.follows .mixedOrders = true := by kernel_rfl
abbrev F_slices_Insert_api_Block_api_Block : Nat := 45
abbrev F_slices_overlaps_api_Block : Nat := 71
abbrev F_slices_rotateRight_api_Block : Nat := 72
noncomputable abbrev G_slices_Insert_api_Block_api_Block : GFun := ⟨95, [(.tmp 6)], (.seq (.region [⟨0, ⟨(some 6), none, (.pure .id), [(.const .nils)]⟩, []⟩]) (.seq (.region [⟨0, ⟨(some 10), none, (.pure .id), [(.tmp 0)]⟩, []⟩, ⟨0, ⟨(some 11), none, (.pure .id), [(.tmp 1)]⟩, []⟩, ⟨0, ⟨(some 12), none, (.pure (.slice 2 true false false)), [(.tmp 10), (.tmp 11)]⟩, []⟩]) (.seq (.region [⟨0, ⟨(some 13), none, (.pure .id), [(.tmp 2)]⟩, []⟩, ⟨0, ⟨(some 14), none, (.pure .len), [(.tmp 13)]⟩, []⟩, ⟨0, ⟨(some 7), none, (.pure .id), [(.tmp 14)]⟩, []⟩]) (.seq (.seq (.region [⟨0, ⟨(some 15), none, (.pure .id), [(.tmp 7)]⟩, []⟩, ⟨0, ⟨(some 16), none, (.pure (.bin .eql .none)), [(.tmp 15), (.const (.int .i64 0))]⟩, []⟩]) (.cond (.tmp 16) (.seq (.region [⟨0, ⟨(some 17), none, (.pure .id), [(.tmp 0)]⟩, []⟩, ⟨0, ⟨(some 6), none, (.pure .id), [(.tmp 17)]⟩, []⟩]) .ret) .skip)) (.seq (.region [⟨0, ⟨(some 18), none, (.pure .id), [(.tmp 0)]⟩, []⟩, ⟨0, ⟨(some 19), none, (.pure .len), [(.tmp 18)]⟩, []⟩, ⟨0, ⟨(some 8), none, (.pure .id), [(.tmp 19)]⟩, []⟩]) (.seq (.seq (.region [⟨0, ⟨(some 20), none, (.pure .id), [(.tmp 1)]⟩, []⟩, ⟨0, ⟨(some 21), none, (.pure .id), [(.tmp 8)]⟩, []⟩, ⟨0, ⟨(some 22), none, (.pure (.bin .eql .none)), [(.tmp 20), (.tmp 21)]⟩, []⟩]) (.cond (.tmp 22) (.seq (.region [⟨0, ⟨(some 23), none, (.pure .id), [(.tmp 0)]⟩, []⟩, ⟨0, ⟨(some 24), none, (.pure .id), [(.tmp 2)]⟩, []⟩, ⟨0, ⟨(some 25), none, (.imp (.append 2 32)), [(.tmp 23), (.tmp 24)]⟩, []⟩, ⟨0, ⟨(some 6), none, (.pure .id), [(.tmp 25)]⟩, []⟩]) .ret) .skip)) (.seq (.seq (.region [⟨0, ⟨(some 26), none, (.pure .id), [(.tmp 8)]⟩, []⟩, ⟨0, ⟨(some 27), none, (.pure .id), [(.tmp 7)]⟩, []⟩, ⟨0, ⟨(some 28), none, (.pure (.bin .add .none)), [(.tmp 26), (.tmp 27)]⟩, []⟩, ⟨0, ⟨(some 29), none, (.pure .id), [(.tmp 0)]⟩, []⟩, ⟨0, ⟨(some 30), none, (.pure .cap), [(.tmp 29)]⟩, []⟩, ⟨0, ⟨(some 31), none, (.pure (.bin .gtr .none)), [(.tmp 28), (.tmp 30)]⟩, []⟩]) (.cond (.tmp 31) (.seq (.region [⟨0, ⟨(some 32), none, (.pure .id), [(.tmp 0)]⟩, []⟩, ⟨0, ⟨(some 33), none, (.pure .id), [(.tmp 1)]⟩, []⟩, ⟨0, ⟨(some 34), none, (.pure (.slice 2 false true false)), [(.tmp 32), (.tmp 33)]⟩, []⟩, ⟨0, ⟨(some 35), none, (.pure .id), [(.tmp 8)]⟩, []⟩, ⟨0, ⟨(some 36), none, (.pure .id), [(.tmp 7)]⟩, []⟩, ⟨0, ⟨(some 37), none, (.pure (.bin .add .none)), [(.tmp 35), (.tmp 36)]⟩, []⟩, ⟨0, ⟨(some 38), none, (.pure .id), [(.tmp 1)]⟩, []⟩, ⟨0, ⟨(some 39), none, (.pure (.bin .sub .none)), [(.tmp 37), (.tmp 38)]⟩, []⟩, ⟨0, ⟨(some 40), none, (.imp (.appendz 2 32 [(.bool false), .nils])), [(.tmp 34), (.tmp 39)]⟩, []⟩, ⟨0, ⟨(some 9), none, (.pure .id), [(.tmp 40)]⟩, []⟩]) (.seq (.region [⟨0, ⟨(some 41), none, (.pure .id), [(.tmp 9)]⟩, []⟩, ⟨0, ⟨(some 42), none, (.pure .id), [(.tmp 1)]⟩, []⟩, ⟨0, ⟨(some 43), none, (.pure (.slice 2 true false false)), [(.tmp 41), (.tmp 42)]⟩, []⟩, ⟨0, ⟨(some 44), none, (.pure .id), [(.tmp 2)]⟩, []⟩, ⟨0, ⟨(some 45), none, (.imp (.copy 2)), [(.tmp 43), (.tmp 44)]⟩, []⟩]) (.seq (.region [⟨0, ⟨(some 46), none, (.pure .id), [(.tmp 9)]⟩, []⟩, ⟨1, ⟨(some 47), none, (.pure .id), [(.tmp 1)]⟩, []⟩, ⟨2, ⟨(some 48), none, (.pure .id), [(.tmp 7)]⟩, []⟩, ⟨3, ⟨(some 49), none, (.pure (.bin .add .none)), [(.tmp 47), (.tmp 48)]⟩, []⟩, ⟨4, ⟨(some 50), none, (.pure (.slice 2 true false false)), [(.tmp 46), (.tmp 49)]⟩, []⟩, ⟨5, ⟨(some 51), none, (.pure .id), [(.tmp 0)]⟩, []⟩, ⟨6, ⟨(some 52), none, (.pure .id), [(.tmp 1)]⟩, []⟩, ⟨7, ⟨(some 53), none, (.pure (.slice 2 true false false)), [(.tmp 51), (.tmp 52)]⟩, []⟩, ⟨8, ⟨(some 54), none, (.imp (.copy 2)), [(.tmp 50), (.tmp 53)]⟩, []⟩]) (.seq (.region [⟨0, ⟨(some 55), none, (.pure .id), [(.tmp 9)]⟩, []⟩, ⟨0, ⟨(some 6), none, (.pure .id), [(.tmp 55)]⟩, []⟩]) .ret)))) .skip)) (.seq (.region [⟨0, ⟨(some 56), none, (.pure .id), [(.tmp 0)]⟩, []⟩, ⟨0, ⟨(some 57), none, (.pure .id), [(.tmp 8)]⟩, []⟩, ⟨0, ⟨(some 58), none, (.pure .id), [(.tmp 7)]⟩, []⟩, ⟨0, ⟨(some 59), none, (.pure (.bin .add .none)), [(.tmp 57), (.tmp 58)]⟩, []⟩, ⟨0, ⟨(some 60), none, (.pure (.slice 2 false true false)), [(.tmp 56), (.tmp 59)]⟩, []⟩, ⟨0, ⟨(some 0), none, (.pure .id), [(.tmp 60)]⟩, []⟩]) (.seq (.seq (.region [⟨0, ⟨(some 61), none, (.pure .id), [(.tmp 2)]⟩, []⟩, ⟨0, ⟨(some 62), none, (.pure .id), [(.tmp 0)]⟩, []⟩, ⟨0, ⟨(some 63), none, (.pure .id), [(.tmp 1)]⟩, []⟩, ⟨0, ⟨(some 64), none, (.pure .id), [(.tmp 7)]⟩, []⟩, ⟨0, ⟨(some 65), none, (.pure (.bin .add .none)), [(.tmp 63), (.tmp 64)]⟩, []⟩, ⟨0, ⟨(some 66), none, (.pure (.slice 2 true false false)), [(.tmp 62), (.tmp 65)]⟩, []⟩, ⟨0, ⟨(some 67), none, (.xcall F_slices_overlaps_api_Block), [(.tmp 61), (.tmp 66)]⟩, []⟩, ⟨0, ⟨(some 68), none, (.pure (.un .not)), [(.tmp 67)]⟩, []⟩]) (.cond (.tmp 68) (.seq (.region [⟨0, ⟨(some 69), none, (.pure .id), [(.tmp 0)]⟩, []⟩, ⟨1, ⟨(some 70), none, (.pure .id), [(.tmp 1)]⟩, []⟩, ⟨2, ⟨(some 71), none, (.pure .id), [(.tmp 7)]⟩, []⟩, ⟨3, ⟨(some 72), none, (.pure (.bin .add .none)), [(.tmp 70), (.tmp 71)]⟩, []⟩, ⟨4, ⟨(some 73), none, (.pure (.slice 2 true false false)), [(.tmp 69), (.tmp 72)]⟩, []⟩, ⟨5, ⟨(some 74), none, (.pure .id), [(.tmp 0)]⟩, []⟩, ⟨6, ⟨(some 75), none, (.pure .id), [(.tmp 1)]⟩, []⟩, ⟨7, ⟨(some 76), none, (.pure (.slice 2 true false false)), [(.tmp 74), (.tmp 75)]⟩, []⟩, ⟨8, ⟨(some 77), none, (.imp (.copy 2)), [(.tmp 73), (.tmp 76)]⟩, []⟩]) (.seq (.region [⟨0, ⟨(some 78), none, (.pure .id), [(.tmp 0)]⟩, []⟩, ⟨0, ⟨(some 79), none, (.pure .id), [(.tmp 1)]⟩, []⟩, ⟨0, ⟨(some 80), none, (.pure (.slice 2 true false false)), [(.tmp 78), (.tmp 79)]⟩, []⟩, ⟨0, ⟨(some 81), none, (.pure .id), [(.tmp 2)]⟩, []⟩, ⟨0, ⟨(some 82), none, (.imp (.copy 2)), [(.tmp 80), (.tmp 81)]⟩, []⟩]) (.seq (.region [⟨0, ⟨(some 83), none, (.pure .id), [(.tmp 0)]⟩, []⟩, ⟨0, ⟨(some 6), none, (.pure .id), [(.tmp 83)]⟩, []⟩]) .ret))) .skip)) (.seq (.region [⟨0, ⟨(some 84), none, (.pure .id), [(.tmp 0)]⟩, []⟩, ⟨0, ⟨(some 85), none, (.pure .id), [(.tmp 8)]⟩, []⟩, ⟨0, ⟨(some 86), none, (.pure (.slice 2 true false false)), [(.tmp 84), (.tmp 85)]⟩, []⟩, ⟨0, ⟨(some 87), none, (.pure .id), [(.tmp 2)]⟩, []⟩, ⟨0, ⟨(some 88), none, (.imp (.copy 2)), [(.tmp 86), (.tmp 87)]⟩, []⟩]) (.seq (.region [⟨0, ⟨(some 89), none, (.pure .id), [(.tmp 0)]⟩, []⟩, ⟨0, ⟨(some 90), none, (.pure .id), [(.tmp 1)]⟩, []⟩, ⟨0, ⟨(some 91), none, (.pure (.slice 2 true false false)), [(.tmp 89), (.tmp 90)]⟩, []⟩, ⟨0, ⟨(some 92), none, (.pure .id), [(.tmp 7)]⟩, []⟩, ⟨0, ⟨(some 93), none, (.call F_slices_rotateRight_api_Block), [(.tmp 91), (.tmp 92)]⟩, []⟩]) (.seq (.region [⟨0, ⟨(some 94), none, (.pure .id), [(.tmp 0)]⟩, []⟩, ⟨0, ⟨(some 6), none, (.pure .id), [(.tmp 94)]⟩, []⟩]) .ret))))))))))))⟩
theorem c_slices_Insert_api_Block_api_Block : compF Try.prog Try.f45 = some G_slices_Insert_api_Block_api_Block := by kernel_rfl
theorem gc_slices_Insert_api_Block_api_Block {args : List DV} {σ : GS} {Post : DV → GS → Prop} (h : @exB Try.prog ⟨G_slices_Insert_api_Block_api_Block.body⟩ (genv0 args G_slices_Insert_api_Block_api_Block.ntmps) σ ⟨@gretB G_slices_Insert_api_Block_api_Block.results ⟨Post⟩⟩) : GCall Try.prog F_slices_Insert_api_Block_api_Block args σ Post := gcall_ofB seatfollows Try.func45 (by kernel_rfl) c_slices_Insert_api_Block_api_Block h
end Go.Gh
namespace Go.Gh
open Go.RowKit Go.Proofs
set_option linter.unusedVariables false
set_option linter.unusedSimpArgs false
set_option maxRecDepth 100000
theorem slice_loC {id off L c k sz : Nat} (h : k ≤ L) (h2 : L ≤ c) : gpure (.slice sz true false false) [.slice id off L sz (some c), .int .i64 (k : Int)] = some (.slice id (off + k * sz) (L - k) sz (some (c - k))) := by
  simp [gpure, gslice, gbm, gbh, gbl, gbound, h, h2]
theorem slice_hiC {id off L c k sz : Nat} (h : k ≤ c) : gpure (.slice sz false true false) [.slice id off L sz (some c), .int .i64 (k : Int)] = some (.slice id off k sz (some c)) := by
  simp [gpure, gslice, gbm, gbh, gbl, gbound, h]
theorem slice_loN {id off L k sz : Nat} (h : k ≤ L) : gpure (.slice sz true false false) [.slice id off L sz none, .int .i64 (k : Int)] = some (.slice id (off + k * sz) (L - k) sz none) := by
  simp [gpure, gslice, gbm, gbh, gbl, gbound, h]
theorem gzeros_len (z : List DV) (hz : z ≠ []) (m : Nat) : (gzeros z m).length = m := by
  unfold gzeros
  split
  · simp
  · simp
theorem gread_at {id off len sz : Nat} {cap : Option Nat} {σ : GS} {ro : Bool} {cs : List DV} (h : σ[id]? = some (.row ro cs)) (hl : off + len * sz ≤ cs.length) (h0 : 0 < len) : gread sz (.slice id off len sz cap) σ = some ((cs.drop off).take (len * sz)) := by
  simp only [gread]
  rw [if_neg (by omega), if_pos trivial, h]
  simp only
  rw [if_pos hl]
theorem gread_at0 {id off sz : Nat} {cap : Option Nat} {σ : GS} : gread sz (.slice id off 0 sz cap) σ = some [] := by simp [gread]
@[simp] theorem gp_cap_some (id off n sz c : Nat) : gpure .cap [.slice id off n sz (some c)] = some (.int .i64 c) := rfl
set_option maxHeartbeats 2000000 in
theorem insert_run {id id2 n i : Nat} {cs : List DV} {x y : DV} {σ : GS} (h1 : σ[id]? = some (.row false cs)) (hl : cs.length = n * 2) (h2 : σ[id2]? = some (.row false [x, y])) (hne : id ≠ id2) (hi : i < n) (hn : n < 2 ^ 40) (hf : cs.all DV.flat = true) (hx : x.flat = true) (hy : y.flat = true) :
    GCall Try.prog F_slices_Insert_api_Block_api_Block [.slice id 0 n 2 none, .int .i64 i, .slice id2 0 1 2 (some 1)] σ fun v σ' => v = .slice σ.length 0 (n + 1) 2 none ∧ σ' = σ.set id .dead ++ [.row false (cs.take (i * 2) ++ [x, y] ++ cs.drop (i * 2))] := by
  have hid := (List.getElem?_eq_some_iff.1 h1).1
  have hid2 := (List.getElem?_eq_some_iff.1 h2).1
  refine GCall.capsplit h1 (by simpa using hl.symm) fun c hc => ?_
  obtain ⟨A, hA⟩ : ∃ A, cs.take (i * 2) = A := ⟨_, rfl⟩
  obtain ⟨D, hD⟩ : ∃ D, cs.drop (i * 2) = D := ⟨_, rfl⟩
  have hAl : A.length = i * 2 := by rw [← hA]; simp; omega
  have hDl : D.length = (n - i) * 2 := by rw [← hD]; simp; omega
  have hAD : cs = A ++ D := by rw [← hA, ← hD, List.take_append_drop]
  have hDf : D.all DV.flat = true := by
    rw [List.all_eq_true] at hf ⊢
    intro d hd; exact hf d (by rw [hAD]; exact List.mem_append_right _ hd)
  have hxy : [x, y].all DV.flat = true := by simp [hx, hy]
  have w1 : IntKind.i64.wrap ((n : Int) + 1) = n + 1 := by rw [wrap_small] <;> omega
  have w2 : IntKind.i64.wrap ((i : Int) + 1) = i + 1 := by rw [wrap_small] <;> omega
  have w3 : IntKind.i64.wrap ((n : Int) + 1 - i) = n + 1 - i := by rw [wrap_small] <;> omega
  have hin : ¬ ((i : Int) = n) := by omega
  have hin2 : ¬ (i = n) := by omega
  rcases Nat.lt_or_ge n c with hlt | hge
  · obtain ⟨W, hW⟩ : ∃ W, List.replicate ((c - n) * 2) DV.any = W := ⟨_, rfl⟩
    have hWl : W.length = (c - n) * 2 := by rw [← hW]; simp
    rw [hW]
    obtain ⟨τ, hτ⟩ : ∃ τ, σ.set id (.row false (cs ++ W)) = τ := ⟨_, rfl⟩
    have hτl : τ.length = σ.length := by rw [← hτ]; simp
    have t1 : τ[id]? = some (.row false (A ++ D ++ W)) := by rw [← hτ, List.getElem?_set_self hid, hAD]
    have t2 : τ[id2]? = some (.row false [x, y]) := by rw [← hτ, List.getElem?_set_ne hne]; exact h2
    obtain ⟨R, hR⟩ : ∃ R, (A ++ D ++ W).drop ((i + 1) * 2 + D.length) = R := ⟨_, rfl⟩
    obtain ⟨U, hU⟩ : ∃ U, (D ++ W).take 2 = U := ⟨_, rfl⟩
    have hUl : U.length = 2 := by rw [← hU]; simp; omega
    rw [hτ]
    refine GCall.conv (Post0 := fun v σ' => v = .slice id 0 (n + 1) 2 (some c) ∧ σ' = τ.set id (.row false (A ++ [x, y] ++ D ++ R))) ?_ ?_
    · refine gc_slices_Insert_api_Block_api_Block ?_
      have gt : ¬ ((c : Int) < (n : Int) + 1) := by omega
      have s1 := slice_loC (id := id) (off := 0) (L := n) (c := c) (k := i) (sz := 2) (by omega) (by omega)
      have s2 := slice_hiC (id := id) (off := 0) (L := n) (c := c) (k := n + 1) (sz := 2) (by omega)
      have s3 := slice_loC (id := id) (off := 0) (L := n + 1) (c := c) (k := i + 1) (sz := 2) (by omega) (by omega)
      have s4 := slice_loC (id := id) (off := 0) (L := n + 1) (c := c) (k := i) (sz := 2) (by omega) (by omega)
      simp at s1 s2 s3 s4
      have rd1 : gread 2 (.slice id (i * 2) (n + 1 - i) 2 (some (c - i))) τ = some (D ++ W.take 2) := by
        rw [gread_at t1 (by simp only [List.length_append, hAl, hDl, hWl]; omega) (by omega), List.append_assoc, ← hAl, List.drop_left]
        rw [show (n + 1 - i) * 2 = D.length + 2 by omega, List.take_append]
        rw [List.take_of_length_le (by omega), show D.length + 2 - D.length = 2 by omega]
      have cp1 : gimp (.copy 2) [.slice id ((i + 1) * 2) (n - i) 2 (some (c - (i + 1))), .slice id (i * 2) (n + 1 - i) 2 (some (c - i))] τ = some (.int .i64 ((n - i : Nat) : Int), τ.set id (.row false (A ++ U ++ (D ++ R)))) := by
        have m1 : min (n + 1 - i) (n - i) = n - i := by omega
        have ht : (D ++ W.take 2).take ((n - i) * 2) = D := by rw [← hDl, List.take_left]
        have ho : over (A ++ D ++ W) ((i + 1) * 2) D = A ++ U ++ (D ++ R) := by
          unfold over
          rw [hR]
          have : (A ++ D ++ W).take ((i + 1) * 2) = A ++ U := by
            rw [List.append_assoc, List.take_append, List.take_of_length_le (by omega), show (i + 1) * 2 - A.length = 2 by omega, hU]
          rw [this]
        simp only [gimp, rd1, glen, m1, t1, ht]
        rw [if_neg (by omega), if_pos trivial, if_pos ⟨by simp only [List.length_append, hAl, hDl, hWl]; omega, hDf⟩, ho]
      have t3 : (τ.set id (.row false (A ++ U ++ (D ++ R))))[id]? = some (.row false (A ++ U ++ (D ++ R))) := List.getElem?_set_self (by omega)
      have rd2 : gread 2 (.slice id2 0 1 2 (some 1)) (τ.set id (.row false (A ++ U ++ (D ++ R)))) = some [x, y] := by
        rw [gread_at (by rw [List.getElem?_set_ne hne]; exact t2) (by simp) (by omega)]; rfl
      have cp2 : gimp (.copy 2) [.slice id (i * 2) (n + 1 - i) 2 (some (c - i)), .slice id2 0 1 2 (some 1)] (τ.set id (.row false (A ++ U ++ (D ++ R)))) = some (.int .i64 1, τ.set id (.row false (A ++ [x, y] ++ D ++ R))) := by
        have m1 : min 1 (n + 1 - i) = 1 := by omega
        have ho : over (A ++ U ++ (D ++ R)) (i * 2) [x, y] = A ++ [x, y] ++ D ++ R := by
          rw [List.append_assoc, ← hAl, over_end]
          have : (U ++ (D ++ R)).drop [x, y].length = D ++ R := by
            rw [show [x, y].length = U.length by rw [hUl]; rfl, List.drop_left]
          rw [this]; simp
        simp only [gimp, rd2, glen, m1, t3]
        rw [if_neg (by decide), if_pos trivial, if_pos ⟨by simp only [List.length_append, hAl, hUl, hDl]; omega, by simpa using hxy⟩]
        simp only [show ([x, y] : List DV).take (1 * 2) = [x, y] from rfl, ho, List.set_set]
        rfl
      simp [G_slices_Insert_api_Block_api_Block, genv0, List.replicate, s1, s2, hin, hin2, w1, w2, w3, gt]
      have r1 : ∃ r rs, A ++ D ++ W = r :: rs := by
        cases hh : A ++ D ++ W with
        | nil => have := congrArg List.length hh; simp [hAl, hDl] at this; omega
        | cons r rs => exact ⟨r, rs, rfl⟩
      obtain ⟨r, rs, hrs⟩ := r1
      simp [s3]
      refine ovl_ok (P := Try.prog) (size := 2) (tS := 22) (tR := 4) (e := 44) Try.func71 (by kernel_rfl) (by kernel_rfl) (by kernel_rfl) (by kernel_rfl) (by kernel_rfl) (by kernel_rfl) t2 (by rw [hrs] at t1; exact t1) hne.symm (by omega) (by omega) ?_
      simp only [List.append_assoc, List.cons_append, List.nil_append] at cp1 cp2
      simp [w2, s3, s4, cp1, cp2]
    · rintro N w0 ρ σ' w v rv hr hv ⟨rfl, rfl⟩ hle
      obtain ⟨L, a, c', hL, rfl, k1, k2, k3, k4⟩ := hv.slice_inv
      have := k3 c rfl
      subst this
      have hmv := hr.move hL (List.getElem?_set_self (by omega)) 0 (by omega) ((n + 1) * 2) (by omega)
      refine ⟨.slice σ.length 0 (n + 1) 2 none, _, _, hmv, ?_, ?_, by simp [hτl], rfl, ?_⟩
      · refine ⟨⟨fun j hj => ?_, fun _ _ _ h => h⟩, fun j M hM => ?_, Nat.le_refl _, fun _ _ _ => rfl, fun _ r hr => ⟨r, hr, rfl⟩⟩
        · exact Ren.put_other _ _ (by simp [hτl]; omega)
        · by_cases hj : j = (τ.set id (.row false (A ++ [x, y] ++ D ++ R))).length
          · subst hj
            rw [Ren.put_same] at hM; cases hM
            exact .inl ⟨id, L, hL, rfl⟩
          · rw [Ren.put_other _ _ hj] at hM; exact .inl ⟨j, M, hM, rfl⟩
      · simp only [VR]
        refine ⟨_, a, c', by rw [show σ.length = (τ.set id (.row false (A ++ [x, y] ++ D ++ R))).length by simp [hτl]]; exact Ren.put_same _ _ _, rfl, k1, fun h => by simpa using k2 h, (fun c' h => by cases h), by simpa using k4⟩
      · rw [List.set_set, ← hτ, List.set_set, hA, hD, List.drop_zero]
        congr 3
        rw [List.take_append_of_le_length (by simp [hAl, hDl]; omega), List.take_of_length_le (by simp [hAl, hDl]; omega)]
  · have hcn : c = n := by omega
    subst hcn
    have hset : σ.set id (.row false (cs ++ List.replicate ((c - c) * 2) .any)) = σ := by
      apply List.ext_getElem?
      intro j
      by_cases hj : j = id
      · subst hj; rw [List.getElem?_set_self hid, h1]; simp
      · rw [List.getElem?_set_ne (fun e => hj e.symm)]
    rw [hset]
    obtain ⟨Z, hZ⟩ : ∃ Z, gzeros [DV.bool false, DV.nils] ((c + 1 - i) * 2) = Z := ⟨_, rfl⟩
    have hZl : Z.length = (c + 1 - i) * 2 := by rw [← hZ]; exact gzeros_len _ (by simp) _
    refine GCall.conv (Post0 := fun v σ' => v = .slice σ.length 0 (c + 1) 2 none ∧ σ' = σ ++ [.row false (A ++ [x, y] ++ D)]) ?_ ?_
    · refine gc_slices_Insert_api_Block_api_Block ?_
      have s1 := slice_loC (id := id) (off := 0) (L := c) (c := c) (k := i) (sz := 2) (by omega) (Nat.le_refl _)
      have s2 := slice_hiC (id := id) (off := 0) (L := c) (c := c) (k := i) (sz := 2) (by omega)
      have gt : ((c : Int) < c + 1) := by omega
      simp at s1 s2
      have w4 : IntKind.i64.wrap ((i : Int) + 1) = ((i + 1 : Nat) : Int) := by rw [w2]; omega
      have w5 : ((c : Int) + 1 - i) = ((c + 1 - i : Nat) : Int) := by omega
      have hgo : growOk (c + 1) 32 = true := by simp [growOk]; omega
      have rd1 : gread 2 (.slice id 0 i 2 (some c)) σ = some A := by
        by_cases h0 : i = 0
        · subst h0
          rw [gread_at0]; simp at hA; rw [← hA]
        · rw [gread_at h1 (by omega) (by omega)]; simp [hA]
      have haz : gimp (.appendz 2 32 [.bool false, .nils]) [.slice id 0 i 2 (some c), .int .i64 ((c : Int) + 1 - i)] σ = some (.slice σ.length 0 (c + 1) 2 none, σ ++ [.row false (A ++ Z)]) := by
        have e1 : (0 : Int) < (c : Int) + 1 - i := by omega
        have e2 : i + ((c : Int) + 1 - i).toNat = c + 1 := by omega
        have e3 : ((c : Int) + 1 - i).toNat * 2 = (c + 1 - i) * 2 := by omega
        simp only [gimp]
        rw [if_pos ⟨trivial, e1, by omega, by rw [e2]; exact hgo⟩, rd1]
        simp only
        rw [e2, e3, hZ]
      have hrow1 : (σ ++ [GObj.row false (A ++ Z)])[σ.length]? = some (.row false (A ++ Z)) := by simp
      have s3 := slice_loN (id := σ.length) (off := 0) (L := c + 1) (k := i) (sz := 2) (by omega)
      have s4 := slice_loN (id := σ.length) (off := 0) (L := c + 1) (k := i + 1) (sz := 2) (by omega)
      simp at s3 s4
      have rd2 : gread 2 (.slice id2 0 1 2 (some 1)) (σ ++ [GObj.row false (A ++ Z)]) = some [x, y] := by
        rw [gread_at (getE_append h2) (by simp) (by omega)]; rfl
      have cp1 : gimp (.copy 2) [.slice σ.length (i * 2) (c + 1 - i) 2 none, .slice id2 0 1 2 (some 1)] (σ ++ [.row false (A ++ Z)]) = some (.int .i64 1, σ ++ [.row false (A ++ [x, y] ++ Z.drop 2)]) := by
        have m1 : min 1 (c + 1 - i) = 1 := by omega
        have ho : over (A ++ Z) (i * 2) [x, y] = A ++ [x, y] ++ Z.drop 2 := by rw [← hAl]; exact over_end
        simp only [gimp, rd2, glen, m1, hrow1]
        rw [if_neg (by decide), if_pos trivial, if_pos ⟨by simp only [List.length_append, hAl, hZl]; omega, by simpa using hxy⟩]
        simp only [show ([x, y] : List DV).take (1 * 2) = [x, y] from rfl, ho]
        rw [List.set_append_right _ _ (Nat.le_refl _)]
        simp
      have hrow2 : (σ ++ [GObj.row false (A ++ [x, y] ++ Z.drop 2)])[σ.length]? = some (.row false (A ++ [x, y] ++ Z.drop 2)) := by simp
      have rd3 : gread 2 (.slice id (i * 2) (c - i) 2 (some (c - i))) (σ ++ [GObj.row false (A ++ [x, y] ++ Z.drop 2)]) = some D := by
        rw [gread_at (getE_append h1) (by omega) (by omega), hD, List.take_of_length_le (by omega)]
      have cp2 : gimp (.copy 2) [.slice σ.length ((i + 1) * 2) (c - i) 2 none, .slice id (i * 2) (c - i) 2 (some (c - i))] (σ ++ [.row false (A ++ [x, y] ++ Z.drop 2)]) = some (.int .i64 ((c - i : Nat) : Int), σ ++ [.row false (A ++ [x, y] ++ D)]) := by
        have ho : over (A ++ [x, y] ++ Z.drop 2) ((i + 1) * 2) D = A ++ [x, y] ++ D := by
          have e : (i + 1) * 2 = (A ++ [x, y]).length := by simp [hAl]; omega
          rw [e, over_end]
          have : (Z.drop 2).drop D.length = [] := by rw [List.drop_drop, List.drop_eq_nil_of_le (by omega)]
          rw [this, List.append_nil]
        simp only [gimp, rd3, glen, Nat.min_self, hrow2]
        rw [if_neg (by omega), if_pos trivial, if_pos ⟨by simp [hAl, hZl]; omega, by rw [List.take_of_length_le (by omega)]; exact hDf⟩]
        rw [List.take_of_length_le (show D.length ≤ (c - i) * 2 by omega), ho]
        simp
      simp only [List.append_assoc, List.cons_append, List.nil_append] at cp1 cp2
      simp [G_slices_Insert_api_Block_api_Block, genv0, List.replicate, s1, s2, hin, hin2, w1, w2, w3, gt, haz, s3, cp1, s4, cp2]
    · rintro N w0 ρ σ' w v rv hr hv ⟨rfl, rfl⟩ hle
      refine ⟨_, _, ρ, hr.kill id, Ext.refl _ _ _, hv, by simp, rfl, ?_⟩
      rw [List.set_append_left _ _ hid, hA, hD]
end Go.Gh
namespace Go.Gh
open Go.RowKit Go.Proofs
set_option linter.unusedVariables false
set_option linter.unusedSimpArgs false
set_option maxRecDepth 100000
/-- What slices.Insert does to a copy of a prefix, for the evaluator. -/
noncomputable def insH (args : List DV) (σ : HT) : Option (DV × HT) :=
  match args with
  | [.slice id off n sz none, .int k i, .slice id2 off2 m sz2 (some c2)] => match σ.get id, σ.get id2 with
    | some (.obj (.row false cs)), some (.obj (.row false [x, y])) =>
      if k = .i64 ∧ off = 0 ∧ sz = 2 ∧ off2 = 0 ∧ m = 1 ∧ sz2 = 2 ∧ c2 = 1 ∧ id ≠ id2 ∧ 0 ≤ i ∧ i.toNat < n ∧ n < 1000000 ∧ cs.length = n * 2 ∧ cs.all DV.flat = true ∧ x.flat = true ∧ y.flat = true then
        match (σ.set id (.obj .dead)).push (.obj (.row false (cs.take (i.toNat * 2) ++ [x, y] ++ cs.drop (i.toNat * 2)))) with
        | some σ' => some (.slice σ.n 0 (n + 1) 2 none, σ')
        | none => none
      else none
    | _, _ => none
  | _ => none
noncomputable def insX (f : FuncId) (args : List DV) (σ : HT) : Option (DV × HT) := if f = F_slices_Insert_api_Block_api_Block then insH args σ else none
theorem insX_ok (f : FuncId) (args : List DV) (σ : HT) (v : DV) (σ' : HT) (h : insX f args σ = some (v, σ')) : GCall Try.prog f args (den σ) fun a b => a = v ∧ b = den σ' := by
  unfold insX at h
  split at h
  rotate_left
  · cases h
  rename_i hf
  subst hf
  unfold insH at h
  split at h
  rotate_left
  · cases h
  rename_i id off n sz k i id2 off2 m sz2 c2
  split at h
  rotate_left
  · cases h
  rename_i cs x y g1 g2
  split at h
  rotate_left
  · cases h
  rename_i hc
  obtain ⟨rfl, rfl, rfl, rfl, rfl, rfl, rfl, hne, hi0, hin, hn, hl, hf, hx, hy⟩ := hc
  split at h
  rotate_left
  · cases h
  rename_i σ1 hp
  cases h
  obtain ⟨p1, p2⟩ := den_push hp
  rw [den_set] at p1 p2
  have hlen : σ.n = (den σ).length := by
    have e : (σ.set id (.obj .dead)).n = σ.n := by unfold HT.set; split <;> rfl
    rw [← e, p2]; simp
  obtain ⟨j, rfl⟩ : ∃ j : Nat, i = j := ⟨i.toNat, by omega⟩
  simp only [Int.toNat_natCast] at hin p1 ⊢
  refine (insert_run (den_at g1) hl (den_at g2) hne hin (by omega) hf hx hy).mono ?_
  rintro a b ⟨rfl, rfl⟩
  exact ⟨by rw [hlen], by rw [p1]; rfl⟩
/-- A closed call answers true, with the oracle's help. -/
noncomputable def sayTrueX (P : Program) (X : FuncId → List DV → HT → Option (DV × HT)) (n : Nat) (f : FuncId) (args : List DV) : Bool :=
  match (evAllX P (tabOf P) X n).call f args ⟨0, .e⟩ with
  | some (.bool true, _) => true
  | _ => false
theorem sayTrueX_ok {P : Program} (hm : P.follows .mixedOrders = true) {X : FuncId → List DV → HT → Option (DV × HT)} (hX : ∀ f args σ v σ', X f args σ = some (v, σ') → GCall P f args (den σ) fun a b => a = v ∧ b = den σ') {n : Nat} {f : FuncId} {args : List DV} (h : sayTrueX P X n f args = true) : GCall P f args [] fun v _ => v = .bool true := by
  unfold sayTrueX at h
  split at h
  · rename_i s he
    have := (evAllX_ok hm (tabOf_ok P) hX n).call f args ⟨0, .e⟩ _ _ he
    rw [show den ⟨0, .e⟩ = [] by simp [den]] at this
    exact this.mono fun v σ' hh => hh.1
  · cases h
end Go.Gh
namespace Go.Gh
open Go.Proofs
set_option maxRecDepth 100000
theorem head_run : sayTrueX Try.prog insX 60 8 [] = true := by kernel_rfl
theorem head_ok {σ : GS} {Post : DV → GS → Prop} (k : Post (.bool true) σ) : GCall Try.prog 8 [] σ Post :=
  GCall.closed (sayTrueX_ok seatfollows insX_ok head_run) k
end Go.Gh
namespace Go.Gh
open Go.Proofs
abbrev F_skolemlaw03_wide : Nat := 7
abbrev F_skolemlaw03_head : Nat := 8
abbrev F_skolemref03_Ints : Nat := 18
noncomputable abbrev G_skolemlaw03_wide : GFun := ⟨45, [(.tmp 6)], (.seq (.region [⟨0, ⟨(some 6), none, (.pure .id), [(.const (.bool false))]⟩, []⟩]) (.seq (.region [⟨0, ⟨(some 10), none, (.pure .id), [(.tmp 0)]⟩, []⟩, ⟨0, ⟨(some 11), none, (.pure .len), [(.tmp 10)]⟩, []⟩, ⟨0, ⟨(some 12), none, (.pure .id), [(.tmp 1)]⟩, []⟩, ⟨0, ⟨(some 13), none, (.pure .len), [(.tmp 12)]⟩, []⟩, ⟨0, ⟨(some 14), none, (.pure (.bin .add .none)), [(.tmp 11), (.tmp 13)]⟩, []⟩, ⟨0, ⟨(some 7), none, (.pure .id), [(.tmp 14)]⟩, []⟩]) (.seq (.seq (.region [⟨0, ⟨(some 8), none, (.pure .id), [(.const (.int .i64 0))]⟩, []⟩]) (.block 0 (.loop (.seq (.seq (.region [⟨0, ⟨(some 15), none, (.pure .id), [(.tmp 8)]⟩, []⟩, ⟨0, ⟨(some 16), none, (.pure .id), [(.tmp 0)]⟩, []⟩, ⟨0, ⟨(some 17), none, (.pure .len), [(.tmp 16)]⟩, []⟩, ⟨0, ⟨(some 18), none, (.pure (.bin .lss .none)), [(.tmp 15), (.tmp 17)]⟩, []⟩]) (.cond (.tmp 18) .skip (.exit 0))) (.seq (.block 1 (.region [⟨0, ⟨(some 21), none, (.pure .id), [(.tmp 7)]⟩, []⟩, ⟨0, ⟨(some 22), none, (.pure .id), [(.tmp 0)]⟩, []⟩, ⟨0, ⟨(some 23), none, (.pure .id), [(.tmp 8)]⟩, []⟩, ⟨0, ⟨(some 24), none, (.pure (.iaddr 2)), [(.tmp 22), (.tmp 23)]⟩, []⟩, ⟨0, ⟨(some 25), none, (.pure (.faddr 1)), [(.tmp 24)]⟩, []⟩, ⟨0, ⟨(some 26), none, (.load (.load 1 false)), [(.tmp 25)]⟩, []⟩, ⟨0, ⟨(some 27), none, (.pure .len), [(.tmp 26)]⟩, []⟩, ⟨0, ⟨(some 28), none, (.pure (.bin .add .none)), [(.tmp 21), (.tmp 27)]⟩, []⟩, ⟨0, ⟨(some 7), none, (.pure .id), [(.tmp 28)]⟩, []⟩])) (.region [⟨0, ⟨(some 19), none, (.pure .id), [(.tmp 8)]⟩, []⟩, ⟨0, ⟨(some 20), none, (.pure (.bin .add .none)), [(.tmp 19), (.const (.int .i64 1))]⟩, []⟩, ⟨0, ⟨(some 8), none, (.pure .id), [(.tmp 20)]⟩, []⟩])))))) (.seq (.seq (.region [⟨0, ⟨(some 9), none, (.pure .id), [(.const (.int .i64 0))]⟩, []⟩]) (.block 2 (.loop (.seq (.seq (.region [⟨0, ⟨(some 29), none, (.pure .id), [(.tmp 9)]⟩, []⟩, ⟨0, ⟨(some 30), none, (.pure .id), [(.tmp 1)]⟩, []⟩, ⟨0, ⟨(some 31), none, (.pure .len), [(.tmp 30)]⟩, []⟩, ⟨0, ⟨(some 32), none, (.pure (.bin .lss .none)), [(.tmp 29), (.tmp 31)]⟩, []⟩]) (.cond (.tmp 32) .skip (.exit 2))) (.seq (.block 3 (.region [⟨0, ⟨(some 35), none, (.pure .id), [(.tmp 7)]⟩, []⟩, ⟨0, ⟨(some 36), none, (.pure .id), [(.tmp 1)]⟩, []⟩, ⟨0, ⟨(some 37), none, (.pure .id), [(.tmp 9)]⟩, []⟩, ⟨0, ⟨(some 38), none, (.pure (.iaddr 1)), [(.tmp 36), (.tmp 37)]⟩, []⟩, ⟨0, ⟨(some 39), none, (.load (.load 1 false)), [(.tmp 38)]⟩, []⟩, ⟨0, ⟨(some 40), none, (.pure .len), [(.tmp 39)]⟩, []⟩, ⟨0, ⟨(some 41), none, (.pure (.bin .add .none)), [(.tmp 35), (.tmp 40)]⟩, []⟩, ⟨0, ⟨(some 7), none, (.pure .id), [(.tmp 41)]⟩, []⟩])) (.region [⟨0, ⟨(some 33), none, (.pure .id), [(.tmp 9)]⟩, []⟩, ⟨0, ⟨(some 34), none, (.pure (.bin .add .none)), [(.tmp 33), (.const (.int .i64 1))]⟩, []⟩, ⟨0, ⟨(some 9), none, (.pure .id), [(.tmp 34)]⟩, []⟩])))))) (.seq (.region [⟨0, ⟨(some 42), none, (.pure .id), [(.tmp 7)]⟩, []⟩, ⟨0, ⟨(some 43), none, (.pure .id), [(.tmp 2)]⟩, []⟩, ⟨0, ⟨(some 44), none, (.pure (.bin .gtr .none)), [(.tmp 42), (.tmp 43)]⟩, []⟩, ⟨0, ⟨(some 6), none, (.pure .id), [(.tmp 44)]⟩, []⟩]) .ret)))))⟩
theorem c_skolemlaw03_wide : compF Try.prog Try.f7 = some G_skolemlaw03_wide := by kernel_rfl
theorem gc_skolemlaw03_wide {args : List DV} {σ : GS} {Post : DV → GS → Prop} (h : @exB Try.prog ⟨G_skolemlaw03_wide.body⟩ (genv0 args G_skolemlaw03_wide.ntmps) σ ⟨@gretB G_skolemlaw03_wide.results ⟨Post⟩⟩) : GCall Try.prog F_skolemlaw03_wide args σ Post := gcall_ofB seatfollows Try.func7 (by kernel_rfl) c_skolemlaw03_wide h
noncomputable abbrev G_skolemref03_Ints : GFun := ⟨26, [(.tmp 4)], (.seq (.region [⟨0, ⟨(some 4), none, (.pure .id), [(.const (.bool false))]⟩, []⟩]) (.seq (.seq (.region [⟨0, ⟨(some 6), none, (.pure .id), [(.tmp 0)]⟩, []⟩, ⟨0, ⟨(some 7), none, (.pure .len), [(.tmp 6)]⟩, []⟩, ⟨0, ⟨(some 8), none, (.pure .id), [(.tmp 1)]⟩, []⟩, ⟨0, ⟨(some 9), none, (.pure .len), [(.tmp 8)]⟩, []⟩, ⟨0, ⟨(some 10), none, (.pure (.bin .neq .none)), [(.tmp 7), (.tmp 9)]⟩, []⟩]) (.cond (.tmp 10) (.seq (.region [⟨0, ⟨(some 4), none, (.pure .id), [(.const (.bool false))]⟩, []⟩]) .ret) .skip)) (.seq (.seq (.region [⟨0, ⟨(some 5), none, (.pure .id), [(.const (.int .i64 0))]⟩, []⟩]) (.block 0 (.loop (.seq (.seq (.region [⟨0, ⟨(some 11), none, (.pure .id), [(.tmp 5)]⟩, []⟩, ⟨0, ⟨(some 12), none, (.pure .id), [(.tmp 0)]⟩, []⟩, ⟨0, ⟨(some 13), none, (.pure .len), [(.tmp 12)]⟩, []⟩, ⟨0, ⟨(some 14), none, (.pure (.bin .lss .none)), [(.tmp 11), (.tmp 13)]⟩, []⟩]) (.cond (.tmp 14) .skip (.exit 0))) (.seq (.block 1 (.seq (.region [⟨0, ⟨(some 17), none, (.pure .id), [(.tmp 0)]⟩, []⟩, ⟨1, ⟨(some 18), none, (.pure .id), [(.tmp 5)]⟩, []⟩, ⟨2, ⟨(some 19), none, (.pure (.iaddr 1)), [(.tmp 17), (.tmp 18)]⟩, []⟩, ⟨3, ⟨(some 20), none, (.load (.load 1 false)), [(.tmp 19)]⟩, []⟩, ⟨4, ⟨(some 21), none, (.pure .id), [(.tmp 1)]⟩, []⟩, ⟨5, ⟨(some 22), none, (.pure .id), [(.tmp 5)]⟩, []⟩, ⟨6, ⟨(some 23), none, (.pure (.iaddr 1)), [(.tmp 21), (.tmp 22)]⟩, []⟩, ⟨7, ⟨(some 24), none, (.load (.load 1 false)), [(.tmp 23)]⟩, []⟩, ⟨8, ⟨(some 25), none, (.pure (.bin .neq .none)), [(.tmp 20), (.tmp 24)]⟩, []⟩]) (.cond (.tmp 25) (.seq (.region [⟨0, ⟨(some 4), none, (.pure .id), [(.const (.bool false))]⟩, []⟩]) .ret) .skip))) (.region [⟨0, ⟨(some 15), none, (.pure .id), [(.tmp 5)]⟩, []⟩, ⟨0, ⟨(some 16), none, (.pure (.bin .add .none)), [(.tmp 15), (.const (.int .i64 1))]⟩, []⟩, ⟨0, ⟨(some 5), none, (.pure .id), [(.tmp 16)]⟩, []⟩])))))) (.seq (.region [⟨0, ⟨(some 4), none, (.pure .id), [(.const (.bool true))]⟩, []⟩]) .ret))))⟩
theorem c_skolemref03_Ints : compF Try.prog Try.f18 = some G_skolemref03_Ints := by kernel_rfl
theorem gc_skolemref03_Ints {args : List DV} {σ : GS} {Post : DV → GS → Prop} (h : @exB Try.prog ⟨G_skolemref03_Ints.body⟩ (genv0 args G_skolemref03_Ints.ntmps) σ ⟨@gretB G_skolemref03_Ints.results ⟨Post⟩⟩) : GCall Try.prog F_skolemref03_Ints args σ Post := gcall_ofB seatfollows Try.func18 (by kernel_rfl) c_skolemref03_Ints h
end Go.Gh
namespace Go.Gh
open Go.Proofs
abbrev F_skolemlaw03_PrefixSides : Nat := 4
abbrev F_skolemref03_Flat : Nat := 9
abbrev F_prefix_Join : Nat := 10
abbrev F_skolemref03_Same : Nat := 16
abbrev F_skolemref03_May : Nat := 19
abbrev F_prefix_On : Nat := 20
abbrev F_prefix_Find : Nat := 21
abbrev F_skolemref03_Has : Nat := 22
abbrev F_prefix_May : Nat := 29
abbrev F_prefix_count : Nat := 33
abbrev F_prefix_joined : Nat := 34
abbrev F_skolemref03_single : Nat := 35
abbrev F_slices_Clone_int_int : Nat := 38
abbrev F_slices_Sort_int_int : Nat := 44
abbrev F_prefix_before : Nat := 51
abbrev F_slices_Contains_int_int : Nat := 52
abbrev F_prefix_each : Nat := 67
abbrev F_slices_Index_int_int : Nat := 74
abbrev F_prefix_each_1 : Nat := 82
noncomputable abbrev G_skolemlaw03_PrefixSides : GFun := ⟨125, [(.tmp 6)], (.seq (.region [⟨0, ⟨(some 6), none, (.pure .id), [(.const (.bool false))]⟩, []⟩]) (.seq (.seq (.region [⟨0, ⟨(some 23), none, (.pure .id), [(.tmp 0)]⟩, []⟩, ⟨0, ⟨(some 24), none, (.call F_skolemlaw03_wide), [(.tmp 23), (.const .nils), (.const (.int .i64 300))]⟩, []⟩, ⟨0, ⟨(some 25), none, (.pure .id), [(.tmp 24)]⟩, []⟩, ⟨0, ⟨(some 26), (some (25, false)), (.pure .id), [(.tmp 0)]⟩, []⟩, ⟨0, ⟨(some 27), (some (25, false)), (.call F_skolemref03_May), [(.tmp 26)]⟩, []⟩, ⟨0, ⟨(some 28), (some (25, false)), (.pure (.un .not)), [(.tmp 27)]⟩, []⟩, ⟨0, ⟨(some 29), none, (.pure .pick), [(.tmp 25), (.const (.bool true)), (.tmp 28)]⟩, []⟩, ⟨0, ⟨(some 30), none, (.pure .id), [(.tmp 29)]⟩, []⟩, ⟨0, ⟨(some 31), (some (30, false)), (.pure .id), [(.tmp 0)]⟩, []⟩, ⟨0, ⟨(some 32), (some (30, false)), (.pure .len), [(.tmp 31)]⟩, []⟩, ⟨0, ⟨(some 33), (some (30, false)), (.pure (.bin .eql .none)), [(.tmp 32), (.const (.int .i64 0))]⟩, []⟩, ⟨0, ⟨(some 34), none, (.pure .pick), [(.tmp 30), (.const (.bool true)), (.tmp 33)]⟩, []⟩]) (.cond (.tmp 34) (.seq (.region [⟨0, ⟨(some 35), none, (.call F_skolemlaw03_head), []⟩, []⟩, ⟨0, ⟨(some 6), none, (.pure .id), [(.tmp 35)]⟩, []⟩]) .ret) .skip)) (.seq (.region [⟨0, ⟨(some 36), none, (.pure .id), [(.tmp 0)]⟩, []⟩, ⟨0, ⟨(some 37), none, (.call F_skolemref03_Flat), [(.tmp 36)]⟩, []⟩, ⟨0, ⟨(some 7), none, (.pure .id), [(.tmp 37)]⟩, []⟩]) (.seq (.region [⟨0, ⟨(some 38), none, (.pure .id), [(.tmp 7)]⟩, []⟩, ⟨1, ⟨(some 39), none, (.pure .id), [(.tmp 1)]⟩, []⟩, ⟨2, ⟨(some 40), none, (.pure (.conv .i64)), [(.tmp 39)]⟩, []⟩, ⟨3, ⟨(some 41), none, (.pure .id), [(.tmp 7)]⟩, []⟩, ⟨4, ⟨(some 42), none, (.pure .len), [(.tmp 41)]⟩, []⟩, ⟨5, ⟨(some 43), none, (.pure (.bin .rem .none)), [(.tmp 40), (.tmp 42)]⟩, []⟩, ⟨6, ⟨(some 44), none, (.pure (.iaddr 1)), [(.tmp 38), (.tmp 43)]⟩, []⟩, ⟨7, ⟨(some 45), none, (.load (.load 1 false)), [(.tmp 44)]⟩, []⟩, ⟨8, ⟨(some 46), none, (.pure .id), [(.tmp 7)]⟩, []⟩, ⟨9, ⟨(some 47), none, (.pure .id), [(.tmp 2)]⟩, []⟩, ⟨10, ⟨(some 48), none, (.pure (.conv .i64)), [(.tmp 47)]⟩, []⟩, ⟨11, ⟨(some 49), none, (.pure .id), [(.tmp 7)]⟩, []⟩, ⟨12, ⟨(some 50), none, (.pure .len), [(.tmp 49)]⟩, []⟩, ⟨13, ⟨(some 51), none, (.pure (.bin .rem .none)), [(.tmp 48), (.tmp 50)]⟩, []⟩, ⟨14, ⟨(some 52), none, (.pure (.iaddr 1)), [(.tmp 46), (.tmp 51)]⟩, []⟩, ⟨15, ⟨(some 53), none, (.load (.load 1 false)), [(.tmp 52)]⟩, []⟩, ⟨16, ⟨(some 8), none, (.pure .id), [(.tmp 45)]⟩, []⟩, ⟨17, ⟨(some 9), none, (.pure .id), [(.tmp 53)]⟩, []⟩]) (.seq (.region [⟨0, ⟨(some 55), none, (.pure .id), [(.tmp 0)]⟩, []⟩, ⟨0, ⟨(some 56), none, (.pure .id), [(.tmp 8)]⟩, []⟩, ⟨0, ⟨(some 57), none, (.call F_prefix_On), [(.tmp 55), (.tmp 56)]⟩, []⟩, ⟨0, ⟨(some 54), none, (.pure .id), [(.tmp 57)]⟩, []⟩, ⟨0, ⟨(some 58), none, (.pure (.extract 0)), [(.tmp 54)]⟩, []⟩, ⟨0, ⟨(some 59), none, (.pure (.extract 1)), [(.tmp 54)]⟩, []⟩, ⟨0, ⟨(some 10), none, (.pure .id), [(.tmp 58)]⟩, []⟩, ⟨0, ⟨(some 11), none, (.pure .id), [(.tmp 59)]⟩, []⟩]) (.seq (.region [⟨0, ⟨(some 61), none, (.pure .id), [(.tmp 0)]⟩, []⟩, ⟨0, ⟨(some 62), none, (.pure .id), [(.tmp 9)]⟩, []⟩, ⟨0, ⟨(some 63), none, (.call F_prefix_On), [(.tmp 61), (.tmp 62)]⟩, []⟩, ⟨0, ⟨(some 60), none, (.pure .id), [(.tmp 63)]⟩, []⟩, ⟨0, ⟨(some 64), none, (.pure (.extract 0)), [(.tmp 60)]⟩, []⟩, ⟨0, ⟨(some 65), none, (.pure (.extract 1)), [(.tmp 60)]⟩, []⟩, ⟨0, ⟨(some 12), none, (.pure .id), [(.tmp 64)]⟩, []⟩, ⟨0, ⟨(some 13), none, (.pure .id), [(.tmp 65)]⟩, []⟩]) (.seq (.region [⟨0, ⟨(some 67), none, (.pure .id), [(.tmp 0)]⟩, []⟩, ⟨0, ⟨(some 68), none, (.pure .id), [(.tmp 8)]⟩, []⟩, ⟨0, ⟨(some 69), none, (.call F_prefix_Find), [(.tmp 67), (.tmp 68)]⟩, []⟩, ⟨0, ⟨(some 66), none, (.pure .id), [(.tmp 69)]⟩, []⟩, ⟨0, ⟨(some 70), none, (.pure (.extract 0)), [(.tmp 66)]⟩, []⟩, ⟨0, ⟨(some 71), none, (.pure (.extract 1)), [(.tmp 66)]⟩, []⟩, ⟨0, ⟨(some 72), none, (.pure (.extract 2)), [(.tmp 66)]⟩, []⟩, ⟨0, ⟨(some 14), none, (.pure .id), [(.tmp 70)]⟩, []⟩, ⟨0, ⟨(some 15), none, (.pure .id), [(.tmp 71)]⟩, []⟩, ⟨0, ⟨(some 16), none, (.pure .id), [(.tmp 72)]⟩, []⟩]) (.seq (.region [⟨0, ⟨(some 74), none, (.pure .id), [(.tmp 0)]⟩, []⟩, ⟨0, ⟨(some 75), none, (.pure .id), [(.tmp 9)]⟩, []⟩, ⟨0, ⟨(some 76), none, (.call F_prefix_Find), [(.tmp 74), (.tmp 75)]⟩, []⟩, ⟨0, ⟨(some 73), none, (.pure .id), [(.tmp 76)]⟩, []⟩, ⟨0, ⟨(some 77), none, (.pure (.extract 0)), [(.tmp 73)]⟩, []⟩, ⟨0, ⟨(some 78), none, (.pure (.extract 1)), [(.tmp 73)]⟩, []⟩, ⟨0, ⟨(some 79), none, (.pure (.extract 2)), [(.tmp 73)]⟩, []⟩, ⟨0, ⟨(some 17), none, (.pure .id), [(.tmp 77)]⟩, []⟩, ⟨0, ⟨(some 18), none, (.pure .id), [(.tmp 78)]⟩, []⟩, ⟨0, ⟨(some 19), none, (.pure .id), [(.tmp 79)]⟩, []⟩]) (.seq (.region [⟨0, ⟨(some 20), none, (.pure .id), [(.const (.int .i64 0))]⟩, []⟩]) (.seq (.seq (.region [⟨0, ⟨(some 80), none, (.pure .id), [(.tmp 10)]⟩, []⟩, ⟨0, ⟨(some 81), none, (.pure .id), [(.tmp 9)]⟩, []⟩, ⟨0, ⟨(some 82), none, (.call F_skolemref03_Has), [(.tmp 80), (.tmp 81)]⟩, []⟩]) (.cond (.tmp 82) (.region [⟨0, ⟨(some 83), none, (.pure .id), [(.tmp 20)]⟩, []⟩, ⟨0, ⟨(some 84), none, (.pure (.bin .add .none)), [(.tmp 83), (.const (.int .i64 1))]⟩, []⟩, ⟨0, ⟨(some 20), none, (.pure .id), [(.tmp 84)]⟩, []⟩]) .skip)) (.seq (.seq (.region [⟨0, ⟨(some 85), none, (.pure .id), [(.tmp 12)]⟩, []⟩, ⟨0, ⟨(some 86), none, (.pure .id), [(.tmp 8)]⟩, []⟩, ⟨0, ⟨(some 87), none, (.call F_skolemref03_Has), [(.tmp 85), (.tmp 86)]⟩, []⟩]) (.cond (.tmp 87) (.region [⟨0, ⟨(some 88), none, (.pure .id), [(.tmp 20)]⟩, []⟩, ⟨0, ⟨(some 89), none, (.pure (.bin .add .none)), [(.tmp 88), (.const (.int .i64 1))]⟩, []⟩, ⟨0, ⟨(some 20), none, (.pure .id), [(.tmp 89)]⟩, []⟩]) .skip)) (.seq (.region [⟨0, ⟨(some 91), none, (.pure .id), [(.tmp 0)]⟩, []⟩, ⟨0, ⟨(some 92), none, (.call F_prefix_Join), [(.tmp 91)]⟩, []⟩, ⟨0, ⟨(some 90), none, (.pure .id), [(.tmp 92)]⟩, []⟩, ⟨0, ⟨(some 93), none, (.pure (.extract 0)), [(.tmp 90)]⟩, []⟩, ⟨0, ⟨(some 94), none, (.pure (.extract 1)), [(.tmp 90)]⟩, []⟩, ⟨0, ⟨(some 21), none, (.pure .id), [(.tmp 93)]⟩, []⟩, ⟨0, ⟨(some 22), none, (.pure .id), [(.tmp 94)]⟩, []⟩]) (.seq (.region [⟨0, ⟨(some 95), none, (.pure .id), [(.tmp 11)]⟩, []⟩, ⟨0, ⟨(some 96), none, (.pure (.bin .eql .none)), [(.tmp 95), (.const (.int .i64 0))]⟩, []⟩, ⟨0, ⟨(some 97), none, (.pure .id), [(.tmp 96)]⟩, []⟩, ⟨0, ⟨(some 98), (some (97, true)), (.pure .id), [(.tmp 13)]⟩, []⟩, ⟨0, ⟨(some 99), (some (97, true)), (.pure (.bin .eql .none)), [(.tmp 98), (.const (.int .i64 0))]⟩, []⟩, ⟨0, ⟨(some 100), none, (.pure .pick), [(.tmp 97), (.tmp 99), (.const (.bool false))]⟩, []⟩, ⟨0, ⟨(some 101), none, (.pure .id), [(.tmp 100)]⟩, []⟩, ⟨0, ⟨(some 102), (some (101, true)), (.pure .id), [(.tmp 20)]⟩, []⟩, ⟨0, ⟨(some 103), (some (101, true)), (.pure (.bin .eql .none)), [(.tmp 102), (.const (.int .i64 1))]⟩, []⟩, ⟨0, ⟨(some 104), (some (101, true)), (.pure .id), [(.tmp 15)]⟩, []⟩, ⟨0, ⟨(some 105), (some (101, true)), (.pure .id), [(.tmp 18)]⟩, []⟩, ⟨0, ⟨(some 106), (some (101, true)), (.pure (.bin .neq .bool)), [(.tmp 104), (.tmp 105)]⟩, []⟩, ⟨0, ⟨(some 107), (some (101, true)), (.pure (.bin .eql .bool)), [(.tmp 103), (.tmp 106)]⟩, []⟩, ⟨0, ⟨(some 108), none, (.pure .pick), [(.tmp 101), (.tmp 107), (.const (.bool false))]⟩, []⟩, ⟨0, ⟨(some 109), none, (.pure .id), [(.tmp 108)]⟩, []⟩, ⟨0, ⟨(some 110), (some (109, true)), (.pure .id), [(.tmp 20)]⟩, []⟩, ⟨0, ⟨(some 111), (some (109, true)), (.pure (.bin .lss .none)), [(.tmp 110), (.const (.int .i64 2))]⟩, []⟩, ⟨0, ⟨(some 112), none, (.pure .pick), [(.tmp 109), (.tmp 111), (.const (.bool false))]⟩, []⟩, ⟨0, ⟨(some 113), none, (.pure .id), [(.tmp 112)]⟩, []⟩, ⟨0, ⟨(some 114), (some (113, true)), (.pure .id), [(.tmp 22)]⟩, []⟩, ⟨0, ⟨(some 115), (some (113, true)), (.pure (.bin .eql .none)), [(.tmp 114), (.const (.int .i64 0))]⟩, []⟩, ⟨0, ⟨(some 116), none, (.pure .pick), [(.tmp 113), (.tmp 115), (.const (.bool false))]⟩, []⟩, ⟨0, ⟨(some 117), none, (.pure .id), [(.tmp 116)]⟩, []⟩, ⟨0, ⟨(some 118), (some (117, true)), (.pure .id), [(.tmp 21)]⟩, []⟩, ⟨0, ⟨(some 119), (some (117, true)), (.pure .id), [(.tmp 0)]⟩, []⟩, ⟨0, ⟨(some 120), (some (117, true)), (.call F_skolemref03_Same), [(.tmp 118), (.tmp 119)]⟩, []⟩, ⟨0, ⟨(some 121), none, (.pure .pick), [(.tmp 117), (.tmp 120), (.const (.bool false))]⟩, []⟩, ⟨0, ⟨(some 122), none, (.pure .id), [(.tmp 121)]⟩, []⟩, ⟨0, ⟨(some 123), (some (122, true)), (.call F_skolemlaw03_head), []⟩, []⟩, ⟨0, ⟨(some 124), none, (.pure .pick), [(.tmp 122), (.tmp 123), (.const (.bool false))]⟩, []⟩, ⟨0, ⟨(some 6), none, (.pure .id), [(.tmp 124)]⟩, []⟩]) .ret)))))))))))))⟩
theorem c_skolemlaw03_PrefixSides : compF Try.prog Try.f4 = some G_skolemlaw03_PrefixSides := by kernel_rfl
theorem gc_skolemlaw03_PrefixSides {args : List DV} {σ : GS} {Post : DV → GS → Prop} (h : @exB Try.prog ⟨G_skolemlaw03_PrefixSides.body⟩ (genv0 args G_skolemlaw03_PrefixSides.ntmps) σ ⟨@gretB G_skolemlaw03_PrefixSides.results ⟨Post⟩⟩) : GCall Try.prog F_skolemlaw03_PrefixSides args σ Post := gcall_ofB seatfollows Try.func4 (by kernel_rfl) c_skolemlaw03_PrefixSides h
noncomputable abbrev G_skolemref03_Flat : GFun := ⟨19, [(.tmp 2)], (.seq (.region [⟨0, ⟨(some 2), none, (.pure .id), [(.const .nils)]⟩, []⟩]) (.seq (.region [⟨0, ⟨(some 3), none, (.pure .id), [(.const .nils)]⟩, []⟩]) (.seq (.seq (.region [⟨0, ⟨(some 4), none, (.pure .id), [(.const (.int .i64 0))]⟩, []⟩]) (.block 0 (.loop (.seq (.seq (.region [⟨0, ⟨(some 5), none, (.pure .id), [(.tmp 4)]⟩, []⟩, ⟨0, ⟨(some 6), none, (.pure .id), [(.tmp 0)]⟩, []⟩, ⟨0, ⟨(some 7), none, (.pure .len), [(.tmp 6)]⟩, []⟩, ⟨0, ⟨(some 8), none, (.pure (.bin .lss .none)), [(.tmp 5), (.tmp 7)]⟩, []⟩]) (.cond (.tmp 8) .skip (.exit 0))) (.seq (.block 1 (.region [⟨0, ⟨(some 11), none, (.pure .id), [(.tmp 3)]⟩, []⟩, ⟨0, ⟨(some 12), none, (.pure .id), [(.tmp 0)]⟩, []⟩, ⟨0, ⟨(some 13), none, (.pure .id), [(.tmp 4)]⟩, []⟩, ⟨0, ⟨(some 14), none, (.pure (.iaddr 2)), [(.tmp 12), (.tmp 13)]⟩, []⟩, ⟨0, ⟨(some 15), none, (.pure (.faddr 1)), [(.tmp 14)]⟩, []⟩, ⟨0, ⟨(some 16), none, (.load (.load 1 false)), [(.tmp 15)]⟩, []⟩, ⟨0, ⟨(some 17), none, (.imp (.append 1 8)), [(.tmp 11), (.tmp 16)]⟩, []⟩, ⟨0, ⟨(some 3), none, (.pure .id), [(.tmp 17)]⟩, []⟩])) (.region [⟨0, ⟨(some 9), none, (.pure .id), [(.tmp 4)]⟩, []⟩, ⟨0, ⟨(some 10), none, (.pure (.bin .add .none)), [(.tmp 9), (.const (.int .i64 1))]⟩, []⟩, ⟨0, ⟨(some 4), none, (.pure .id), [(.tmp 10)]⟩, []⟩])))))) (.seq (.region [⟨0, ⟨(some 18), none, (.pure .id), [(.tmp 3)]⟩, []⟩, ⟨0, ⟨(some 2), none, (.pure .id), [(.tmp 18)]⟩, []⟩]) .ret))))⟩
theorem c_skolemref03_Flat : compF Try.prog Try.f9 = some G_skolemref03_Flat := by kernel_rfl
theorem gc_skolemref03_Flat {args : List DV} {σ : GS} {Post : DV → GS → Prop} (h : @exB Try.prog ⟨G_skolemref03_Flat.body⟩ (genv0 args G_skolemref03_Flat.ntmps) σ ⟨@gretB G_skolemref03_Flat.results ⟨Post⟩⟩) : GCall Try.prog F_skolemref03_Flat args σ Post := gcall_ofB seatfollows Try.func9 (by kernel_rfl) c_skolemref03_Flat h
noncomputable abbrev G_skolemref03_Has : GFun := ⟨18, [(.tmp 4)], (.seq (.region [⟨0, ⟨(some 4), none, (.pure .id), [(.const (.bool false))]⟩, []⟩]) (.seq (.seq (.region [⟨0, ⟨(some 5), none, (.pure .id), [(.const (.int .i64 0))]⟩, []⟩]) (.block 0 (.loop (.seq (.seq (.region [⟨0, ⟨(some 6), none, (.pure .id), [(.tmp 5)]⟩, []⟩, ⟨0, ⟨(some 7), none, (.pure .id), [(.tmp 0)]⟩, []⟩, ⟨0, ⟨(some 8), none, (.pure .len), [(.tmp 7)]⟩, []⟩, ⟨0, ⟨(some 9), none, (.pure (.bin .lss .none)), [(.tmp 6), (.tmp 8)]⟩, []⟩]) (.cond (.tmp 9) .skip (.exit 0))) (.seq (.block 1 (.seq (.region [⟨0, ⟨(some 12), none, (.pure .id), [(.tmp 0)]⟩, []⟩, ⟨0, ⟨(some 13), none, (.pure .id), [(.tmp 5)]⟩, []⟩, ⟨0, ⟨(some 14), none, (.pure (.iaddr 1)), [(.tmp 12), (.tmp 13)]⟩, []⟩, ⟨0, ⟨(some 15), none, (.load (.load 1 false)), [(.tmp 14)]⟩, []⟩, ⟨0, ⟨(some 16), none, (.pure .id), [(.tmp 1)]⟩, []⟩, ⟨0, ⟨(some 17), none, (.pure (.bin .eql .none)), [(.tmp 15), (.tmp 16)]⟩, []⟩]) (.cond (.tmp 17) (.seq (.region [⟨0, ⟨(some 4), none, (.pure .id), [(.const (.bool true))]⟩, []⟩]) .ret) .skip))) (.region [⟨0, ⟨(some 10), none, (.pure .id), [(.tmp 5)]⟩, []⟩, ⟨0, ⟨(some 11), none, (.pure (.bin .add .none)), [(.tmp 10), (.const (.int .i64 1))]⟩, []⟩, ⟨0, ⟨(some 5), none, (.pure .id), [(.tmp 11)]⟩, []⟩])))))) (.seq (.region [⟨0, ⟨(some 4), none, (.pure .id), [(.const (.bool false))]⟩, []⟩]) .ret)))⟩
theorem c_skolemref03_Has : compF Try.prog Try.f22 = some G_skolemref03_Has := by kernel_rfl
theorem gc_skolemref03_Has {args : List DV} {σ : GS} {Post : DV → GS → Prop} (h : @exB Try.prog ⟨G_skolemref03_Has.body⟩ (genv0 args G_skolemref03_Has.ntmps) σ ⟨@gretB G_skolemref03_Has.results ⟨Post⟩⟩) : GCall Try.prog F_skolemref03_Has args σ Post := gcall_ofB seatfollows Try.func22 (by kernel_rfl) c_skolemref03_Has h
noncomputable abbrev G_skolemref03_single : GFun := ⟨32, [(.tmp 2)], (.seq (.region [⟨0, ⟨(some 2), none, (.pure .id), [(.const (.bool false))]⟩, []⟩]) (.seq (.seq (.region [⟨0, ⟨(some 3), none, (.pure .id), [(.const (.int .i64 0))]⟩, []⟩]) (.block 0 (.loop (.seq (.seq (.region [⟨0, ⟨(some 4), none, (.pure .id), [(.tmp 3)]⟩, []⟩, ⟨0, ⟨(some 5), none, (.pure .id), [(.tmp 0)]⟩, []⟩, ⟨0, ⟨(some 6), none, (.pure .len), [(.tmp 5)]⟩, []⟩, ⟨0, ⟨(some 7), none, (.pure (.bin .lss .none)), [(.tmp 4), (.tmp 6)]⟩, []⟩]) (.cond (.tmp 7) .skip (.exit 0))) (.seq (.block 1 (.seq (.region [⟨0, ⟨(some 10), none, (.pure .id), [(.tmp 0)]⟩, []⟩, ⟨1, ⟨(some 11), none, (.pure .id), [(.tmp 3)]⟩, []⟩, ⟨2, ⟨(some 12), none, (.pure (.iaddr 1)), [(.tmp 10), (.tmp 11)]⟩, []⟩, ⟨3, ⟨(some 13), none, (.load (.load 1 false)), [(.tmp 12)]⟩, []⟩, ⟨4, ⟨(some 14), none, (.pure (.bin .lss .none)), [(.tmp 13), (.const (.int .i64 1))]⟩, []⟩, ⟨5, ⟨(some 15), none, (.pure .id), [(.tmp 14)]⟩, []⟩, ⟨6, ⟨(some 16), (some (15, false)), (.pure .id), [(.tmp 0)]⟩, []⟩, ⟨7, ⟨(some 17), (some (15, false)), (.pure .id), [(.tmp 3)]⟩, []⟩, ⟨8, ⟨(some 18), (some (15, false)), (.pure (.iaddr 1)), [(.tmp 16), (.tmp 17)]⟩, []⟩, ⟨9, ⟨(some 19), (some (15, false)), (.load (.load 1 false)), [(.tmp 18)]⟩, []⟩, ⟨10, ⟨(some 20), (some (15, false)), (.pure (.bin .gtr .none)), [(.tmp 19), (.const (.int .i64 65536))]⟩, []⟩, ⟨11, ⟨(some 21), none, (.pure .pick), [(.tmp 15), (.const (.bool true)), (.tmp 20)]⟩, []⟩, ⟨12, ⟨(some 22), none, (.pure .id), [(.tmp 21)]⟩, []⟩, ⟨13, ⟨(some 23), (some (22, false)), (.pure .id), [(.tmp 0)]⟩, []⟩, ⟨14, ⟨(some 24), (some (22, false)), (.pure .id), [(.tmp 3)]⟩, []⟩, ⟨15, ⟨(some 25), (some (22, false)), (.pure (.slice 1 false true false)), [(.tmp 23), (.tmp 24)]⟩, []⟩, ⟨16, ⟨(some 26), (some (22, false)), (.pure .id), [(.tmp 0)]⟩, []⟩, ⟨17, ⟨(some 27), (some (22, false)), (.pure .id), [(.tmp 3)]⟩, []⟩, ⟨18, ⟨(some 28), (some (22, false)), (.pure (.iaddr 1)), [(.tmp 26), (.tmp 27)]⟩, []⟩, ⟨19, ⟨(some 29), (some (22, false)), (.load (.load 1 false)), [(.tmp 28)]⟩, []⟩, ⟨20, ⟨(some 30), (some (22, false)), (.call F_skolemref03_Has), [(.tmp 25), (.tmp 29)]⟩, []⟩, ⟨21, ⟨(some 31), none, (.pure .pick), [(.tmp 22), (.const (.bool true)), (.tmp 30)]⟩, []⟩]) (.cond (.tmp 31) (.seq (.region [⟨0, ⟨(some 2), none, (.pure .id), [(.const (.bool false))]⟩, []⟩]) .ret) .skip))) (.region [⟨0, ⟨(some 8), none, (.pure .id), [(.tmp 3)]⟩, []⟩, ⟨0, ⟨(some 9), none, (.pure (.bin .add .none)), [(.tmp 8), (.const (.int .i64 1))]⟩, []⟩, ⟨0, ⟨(some 3), none, (.pure .id), [(.tmp 9)]⟩, []⟩])))))) (.seq (.region [⟨0, ⟨(some 2), none, (.pure .id), [(.const (.bool true))]⟩, []⟩]) .ret)))⟩
theorem c_skolemref03_single : compF Try.prog Try.f35 = some G_skolemref03_single := by kernel_rfl
theorem gc_skolemref03_single {args : List DV} {σ : GS} {Post : DV → GS → Prop} (h : @exB Try.prog ⟨G_skolemref03_single.body⟩ (genv0 args G_skolemref03_single.ntmps) σ ⟨@gretB G_skolemref03_single.results ⟨Post⟩⟩) : GCall Try.prog F_skolemref03_single args σ Post := gcall_ofB seatfollows Try.func35 (by kernel_rfl) c_skolemref03_single h
noncomputable abbrev G_skolemref03_May : GFun := ⟨45, [(.tmp 2)], (.seq (.region [⟨0, ⟨(some 2), none, (.pure .id), [(.const (.bool false))]⟩, []⟩]) (.seq (.seq (.region [⟨0, ⟨(some 3), none, (.pure .id), [(.const (.int .i64 0))]⟩, []⟩]) (.block 0 (.loop (.seq (.seq (.region [⟨0, ⟨(some 5), none, (.pure .id), [(.tmp 3)]⟩, []⟩, ⟨0, ⟨(some 6), none, (.pure .id), [(.tmp 0)]⟩, []⟩, ⟨0, ⟨(some 7), none, (.pure .len), [(.tmp 6)]⟩, []⟩, ⟨0, ⟨(some 8), none, (.pure (.bin .lss .none)), [(.tmp 5), (.tmp 7)]⟩, []⟩]) (.cond (.tmp 8) .skip (.exit 0))) (.seq (.block 1 (.seq (.region [⟨0, ⟨(some 11), none, (.pure .id), [(.tmp 0)]⟩, []⟩, ⟨1, ⟨(some 12), none, (.pure .id), [(.tmp 3)]⟩, []⟩, ⟨2, ⟨(some 13), none, (.pure (.iaddr 2)), [(.tmp 11), (.tmp 12)]⟩, []⟩, ⟨3, ⟨(some 14), none, (.pure (.faddr 1)), [(.tmp 13)]⟩, []⟩, ⟨4, ⟨(some 15), none, (.load (.load 1 false)), [(.tmp 14)]⟩, []⟩, ⟨5, ⟨(some 16), none, (.pure .len), [(.tmp 15)]⟩, []⟩, ⟨6, ⟨(some 17), none, (.pure (.bin .eql .none)), [(.tmp 16), (.const (.int .i64 0))]⟩, []⟩, ⟨7, ⟨(some 18), none, (.pure .id), [(.tmp 17)]⟩, []⟩, ⟨8, ⟨(some 19), (some (18, false)), (.pure .id), [(.tmp 3)]⟩, []⟩, ⟨9, ⟨(some 20), (some (18, false)), (.pure (.bin .gtr .none)), [(.tmp 19), (.const (.int .i64 0))]⟩, []⟩, ⟨10, ⟨(some 21), (some (18, false)), (.pure .id), [(.tmp 20)]⟩, []⟩, ⟨11, ⟨(some 22), (some (21, true)), (.pure .id), [(.tmp 0)]⟩, []⟩, ⟨12, ⟨(some 23), (some (21, true)), (.pure .id), [(.tmp 3)]⟩, []⟩, ⟨13, ⟨(some 24), (some (21, true)), (.pure (.bin .sub .none)), [(.tmp 23), (.const (.int .i64 1))]⟩, []⟩, ⟨14, ⟨(some 25), (some (21, true)), (.pure (.iaddr 2)), [(.tmp 22), (.tmp 24)]⟩, []⟩, ⟨15, ⟨(some 26), (some (21, true)), (.pure (.faddr 0)), [(.tmp 25)]⟩, []⟩, ⟨16, ⟨(some 27), (some (21, true)), (.load (.load 1 false)), [(.tmp 26)]⟩, []⟩, ⟨17, ⟨(some 28), (some (21, true)), (.pure .id), [(.tmp 0)]⟩, []⟩, ⟨18, ⟨(some 29), (some (21, true)), (.pure .id), [(.tmp 3)]⟩, []⟩, ⟨19, ⟨(some 30), (some (21, true)), (.pure (.iaddr 2)), [(.tmp 28), (.tmp 29)]⟩, []⟩, ⟨20, ⟨(some 31), (some (21, true)), (.pure (.faddr 0)), [(.tmp 30)]⟩, []⟩, ⟨21, ⟨(some 32), (some (21, true)), (.load (.load 1 false)), [(.tmp 31)]⟩, []⟩, ⟨22, ⟨(some 33), (some (21, true)), (.pure (.bin .eql .bool)), [(.tmp 27), (.tmp 32)]⟩, []⟩, ⟨23, ⟨(some 34), (some (18, false)), (.pure .pick), [(.tmp 21), (.tmp 33), (.const (.bool false))]⟩, []⟩, ⟨24, ⟨(some 35), none, (.pure .pick), [(.tmp 18), (.const (.bool true)), (.tmp 34)]⟩, []⟩]) (.cond (.tmp 35) (.seq (.region [⟨0, ⟨(some 2), none, (.pure .id), [(.const (.bool false))]⟩, []⟩]) .ret) .skip))) (.region [⟨0, ⟨(some 9), none, (.pure .id), [(.tmp 3)]⟩, []⟩, ⟨0, ⟨(some 10), none, (.pure (.bin .add .none)), [(.tmp 9), (.const (.int .i64 1))]⟩, []⟩, ⟨0, ⟨(some 3), none, (.pure .id), [(.tmp 10)]⟩, []⟩])))))) (.seq (.region [⟨0, ⟨(some 36), none, (.pure .id), [(.tmp 0)]⟩, []⟩, ⟨0, ⟨(some 37), none, (.call F_skolemref03_Flat), [(.tmp 36)]⟩, []⟩, ⟨0, ⟨(some 4), none, (.pure .id), [(.tmp 37)]⟩, []⟩]) (.seq (.region [⟨0, ⟨(some 38), none, (.pure .id), [(.tmp 4)]⟩, []⟩, ⟨0, ⟨(some 39), none, (.pure .len), [(.tmp 38)]⟩, []⟩, ⟨0, ⟨(some 40), none, (.pure (.bin .leq .none)), [(.tmp 39), (.const (.int .i64 1024))]⟩, []⟩, ⟨0, ⟨(some 41), none, (.pure .id), [(.tmp 40)]⟩, []⟩, ⟨0, ⟨(some 42), (some (41, true)), (.pure .id), [(.tmp 4)]⟩, []⟩, ⟨0, ⟨(some 43), (some (41, true)), (.call F_skolemref03_single), [(.tmp 42)]⟩, []⟩, ⟨0, ⟨(some 44), none, (.pure .pick), [(.tmp 41), (.tmp 43), (.const (.bool false))]⟩, []⟩, ⟨0, ⟨(some 2), none, (.pure .id), [(.tmp 44)]⟩, []⟩]) .ret))))⟩
theorem c_skolemref03_May : compF Try.prog Try.f19 = some G_skolemref03_May := by kernel_rfl
theorem gc_skolemref03_May {args : List DV} {σ : GS} {Post : DV → GS → Prop} (h : @exB Try.prog ⟨G_skolemref03_May.body⟩ (genv0 args G_skolemref03_May.ntmps) σ ⟨@gretB G_skolemref03_May.results ⟨Post⟩⟩) : GCall Try.prog F_skolemref03_May args σ Post := gcall_ofB seatfollows Try.func19 (by kernel_rfl) c_skolemref03_May h
noncomputable abbrev G_skolemref03_Same : GFun := ⟨42, [(.tmp 4)], (.seq (.region [⟨0, ⟨(some 4), none, (.pure .id), [(.const (.bool false))]⟩, []⟩]) (.seq (.seq (.region [⟨0, ⟨(some 6), none, (.pure .id), [(.tmp 0)]⟩, []⟩, ⟨0, ⟨(some 7), none, (.pure .len), [(.tmp 6)]⟩, []⟩, ⟨0, ⟨(some 8), none, (.pure .id), [(.tmp 1)]⟩, []⟩, ⟨0, ⟨(some 9), none, (.pure .len), [(.tmp 8)]⟩, []⟩, ⟨0, ⟨(some 10), none, (.pure (.bin .neq .none)), [(.tmp 7), (.tmp 9)]⟩, []⟩]) (.cond (.tmp 10) (.seq (.region [⟨0, ⟨(some 4), none, (.pure .id), [(.const (.bool false))]⟩, []⟩]) .ret) .skip)) (.seq (.seq (.region [⟨0, ⟨(some 5), none, (.pure .id), [(.const (.int .i64 0))]⟩, []⟩]) (.block 0 (.loop (.seq (.seq (.region [⟨0, ⟨(some 11), none, (.pure .id), [(.tmp 5)]⟩, []⟩, ⟨0, ⟨(some 12), none, (.pure .id), [(.tmp 0)]⟩, []⟩, ⟨0, ⟨(some 13), none, (.pure .len), [(.tmp 12)]⟩, []⟩, ⟨0, ⟨(some 14), none, (.pure (.bin .lss .none)), [(.tmp 11), (.tmp 13)]⟩, []⟩]) (.cond (.tmp 14) .skip (.exit 0))) (.seq (.block 1 (.seq (.region [⟨0, ⟨(some 17), none, (.pure .id), [(.tmp 0)]⟩, []⟩, ⟨1, ⟨(some 18), none, (.pure .id), [(.tmp 5)]⟩, []⟩, ⟨2, ⟨(some 19), none, (.pure (.iaddr 2)), [(.tmp 17), (.tmp 18)]⟩, []⟩, ⟨3, ⟨(some 20), none, (.pure (.faddr 0)), [(.tmp 19)]⟩, []⟩, ⟨4, ⟨(some 21), none, (.load (.load 1 false)), [(.tmp 20)]⟩, []⟩, ⟨5, ⟨(some 22), none, (.pure .id), [(.tmp 1)]⟩, []⟩, ⟨6, ⟨(some 23), none, (.pure .id), [(.tmp 5)]⟩, []⟩, ⟨7, ⟨(some 24), none, (.pure (.iaddr 2)), [(.tmp 22), (.tmp 23)]⟩, []⟩, ⟨8, ⟨(some 25), none, (.pure (.faddr 0)), [(.tmp 24)]⟩, []⟩, ⟨9, ⟨(some 26), none, (.load (.load 1 false)), [(.tmp 25)]⟩, []⟩, ⟨10, ⟨(some 27), none, (.pure (.bin .neq .bool)), [(.tmp 21), (.tmp 26)]⟩, []⟩, ⟨11, ⟨(some 28), none, (.pure .id), [(.tmp 27)]⟩, []⟩, ⟨12, ⟨(some 29), (some (28, false)), (.pure .id), [(.tmp 0)]⟩, []⟩, ⟨13, ⟨(some 30), (some (28, false)), (.pure .id), [(.tmp 5)]⟩, []⟩, ⟨14, ⟨(some 31), (some (28, false)), (.pure (.iaddr 2)), [(.tmp 29), (.tmp 30)]⟩, []⟩, ⟨15, ⟨(some 32), (some (28, false)), (.pure (.faddr 1)), [(.tmp 31)]⟩, []⟩, ⟨16, ⟨(some 33), (some (28, false)), (.load (.load 1 false)), [(.tmp 32)]⟩, []⟩, ⟨17, ⟨(some 34), (some (28, false)), (.pure .id), [(.tmp 1)]⟩, []⟩, ⟨18, ⟨(some 35), (some (28, false)), (.pure .id), [(.tmp 5)]⟩, []⟩, ⟨19, ⟨(some 36), (some (28, false)), (.pure (.iaddr 2)), [(.tmp 34), (.tmp 35)]⟩, []⟩, ⟨20, ⟨(some 37), (some (28, false)), (.pure (.faddr 1)), [(.tmp 36)]⟩, []⟩, ⟨21, ⟨(some 38), (some (28, false)), (.load (.load 1 false)), [(.tmp 37)]⟩, []⟩, ⟨22, ⟨(some 39), (some (28, false)), (.call F_skolemref03_Ints), [(.tmp 33), (.tmp 38)]⟩, []⟩, ⟨23, ⟨(some 40), (some (28, false)), (.pure (.un .not)), [(.tmp 39)]⟩, []⟩, ⟨24, ⟨(some 41), none, (.pure .pick), [(.tmp 28), (.const (.bool true)), (.tmp 40)]⟩, []⟩]) (.cond (.tmp 41) (.seq (.region [⟨0, ⟨(some 4), none, (.pure .id), [(.const (.bool false))]⟩, []⟩]) .ret) .skip))) (.region [⟨0, ⟨(some 15), none, (.pure .id), [(.tmp 5)]⟩, []⟩, ⟨0, ⟨(some 16), none, (.pure (.bin .add .none)), [(.tmp 15), (.const (.int .i64 1))]⟩, []⟩, ⟨0, ⟨(some 5), none, (.pure .id), [(.tmp 16)]⟩, []⟩])))))) (.seq (.region [⟨0, ⟨(some 4), none, (.pure .id), [(.const (.bool true))]⟩, []⟩]) .ret))))⟩
theorem c_skolemref03_Same : compF Try.prog Try.f16 = some G_skolemref03_Same := by kernel_rfl
theorem gc_skolemref03_Same {args : List DV} {σ : GS} {Post : DV → GS → Prop} (h : @exB Try.prog ⟨G_skolemref03_Same.body⟩ (genv0 args G_skolemref03_Same.ntmps) σ ⟨@gretB G_skolemref03_Same.results ⟨Post⟩⟩) : GCall Try.prog F_skolemref03_Same args σ Post := gcall_ofB seatfollows Try.func16 (by kernel_rfl) c_skolemref03_Same h
noncomputable abbrev G_prefix_each : GFun := ⟨4, [(.tmp 2)], (.seq (.region [⟨0, ⟨(some 1), none, (.new .box), [(.tmp 0)]⟩, []⟩, ⟨0, ⟨(some 2), none, (.pure .id), [(.const .nilf)]⟩, []⟩]) (.seq (.region [⟨0, ⟨(some 3), none, (.pure (.mkfunc F_prefix_each_1 0)), [(.tmp 1)]⟩, []⟩, ⟨0, ⟨(some 2), none, (.pure .id), [(.tmp 3)]⟩, []⟩]) .ret))⟩
theorem c_prefix_each : compF Try.prog Try.f67 = some G_prefix_each := by kernel_rfl
theorem gc_prefix_each {args : List DV} {σ : GS} {Post : DV → GS → Prop} (h : @exB Try.prog ⟨G_prefix_each.body⟩ (genv0 args G_prefix_each.ntmps) σ ⟨@gretB G_prefix_each.results ⟨Post⟩⟩) : GCall Try.prog F_prefix_each args σ Post := gcall_ofB seatfollows Try.func67 (by kernel_rfl) c_prefix_each h
noncomputable abbrev G_prefix_each_1 : GFun := ⟨28, [], (.seq (.region [⟨0, ⟨(some 7), none, (.load (.load 1 false)), [(.tmp 1)]⟩, []⟩, ⟨0, ⟨(some 8), none, (.pure .len), [(.tmp 7)]⟩, []⟩, ⟨0, ⟨(some 9), none, (.pure .id), [(.const (.int .i64 0))]⟩, []⟩]) (.block 0 (.loop (.seq (.region [⟨0, ⟨(some 10), none, (.pure (.bin .lss .none)), [(.tmp 9), (.tmp 8)]⟩, []⟩]) (.seq (.cond (.tmp 10) .skip (.exit 0)) (.seq (.block 1 (.seq (.region [⟨0, ⟨(some 11), none, (.pure .id), [(.tmp 9)]⟩, []⟩, ⟨0, ⟨(some 12), none, (.pure (.iaddr 2)), [(.tmp 7), (.tmp 9)]⟩, []⟩, ⟨0, ⟨(some 13), none, (.load (.load 2 true)), [(.tmp 12)]⟩, []⟩, ⟨0, ⟨(some 4), none, (.new (.alloc [(.bool false), .nils])), []⟩, []⟩, ⟨0, ⟨(some 3), none, (.pure .id), [(.tmp 11)]⟩, []⟩, ⟨0, ⟨none, none, (.imp (.store 2)), [(.tmp 4), (.tmp 13)]⟩, []⟩]) (.seq (.region [⟨0, ⟨(some 14), none, (.pure (.faddr 1)), [(.tmp 4)]⟩, []⟩, ⟨0, ⟨(some 15), none, (.load (.load 1 false)), [(.tmp 14)]⟩, []⟩, ⟨0, ⟨(some 16), none, (.pure .len), [(.tmp 15)]⟩, []⟩, ⟨0, ⟨(some 17), none, (.pure .id), [(.const (.int .i64 0))]⟩, []⟩]) (.block 2 (.loop (.seq (.region [⟨0, ⟨(some 18), none, (.pure (.bin .lss .none)), [(.tmp 17), (.tmp 16)]⟩, []⟩]) (.seq (.cond (.tmp 18) .skip (.exit 2)) (.seq (.block 3 (.seq (.region [⟨0, ⟨(some 19), none, (.pure (.iaddr 1)), [(.tmp 15), (.tmp 17)]⟩, []⟩, ⟨0, ⟨(some 20), none, (.load (.load 1 false)), [(.tmp 19)]⟩, []⟩, ⟨0, ⟨(some 6), none, (.pure .id), [(.tmp 20)]⟩, []⟩]) (.seq (.region [⟨0, ⟨(some 21), none, (.pure .id), [(.tmp 0)]⟩, []⟩, ⟨0, ⟨(some 22), none, (.pure .id), [(.tmp 3)]⟩, []⟩, ⟨0, ⟨(some 23), none, (.pure .id), [(.tmp 6)]⟩, []⟩, ⟨0, ⟨(some 24), none, .callv, [(.tmp 21), (.tmp 22), (.tmp 23)]⟩, []⟩, ⟨0, ⟨(some 25), none, (.pure (.un .not)), [(.tmp 24)]⟩, []⟩]) (.cond (.tmp 25) .ret .skip)))) (.region [⟨0, ⟨(some 26), none, (.pure (.bin .add .none)), [(.tmp 17), (.const (.int .i64 1))]⟩, []⟩, ⟨0, ⟨(some 17), none, (.pure .id), [(.tmp 26)]⟩, []⟩]))))))))) (.region [⟨0, ⟨(some 27), none, (.pure (.bin .add .none)), [(.tmp 9), (.const (.int .i64 1))]⟩, []⟩, ⟨0, ⟨(some 9), none, (.pure .id), [(.tmp 27)]⟩, []⟩])))))))⟩
theorem c_prefix_each_1 : compF Try.prog Try.f82 = some G_prefix_each_1 := by kernel_rfl
theorem gc_prefix_each_1 {args : List DV} {σ : GS} {Post : DV → GS → Prop} (h : @exB Try.prog ⟨G_prefix_each_1.body⟩ (genv0 args G_prefix_each_1.ntmps) σ ⟨@gretB G_prefix_each_1.results ⟨Post⟩⟩) : GCall Try.prog F_prefix_each_1 args σ Post := gcall_ofB seatfollows Try.func82 (by kernel_rfl) c_prefix_each_1 h
noncomputable abbrev G_prefix_count : GFun := ⟨27, [(.cell 2 1 false), (.cell 3 1 false)], (.seq (.region [⟨0, ⟨(some 2), none, (.new (.alloc [(.int .i64 0)])), []⟩, []⟩, ⟨0, ⟨(some 3), none, (.new (.alloc [(.bool false)])), []⟩, []⟩]) (.seq (.region [⟨0, ⟨(some 7), none, (.new .mmap), []⟩, []⟩, ⟨0, ⟨(some 4), none, (.new (.alloc [.nilmap])), []⟩, []⟩, ⟨0, ⟨none, none, (.imp (.store 1)), [(.tmp 4), (.tmp 7)]⟩, []⟩]) (.seq (.seq (.region [⟨0, ⟨(some 8), none, (.pure .id), [(.tmp 0)]⟩, []⟩, ⟨0, ⟨(some 9), none, (.call F_prefix_each), [(.tmp 8)]⟩, []⟩]) (.block 0 (.rangeF (.tmp 9) [10, 11] (rngA Try.f33 0) (rngB Try.f33 0)))) (.seq (.region [⟨0, ⟨(some 25), none, (.load (.load 1 false)), [(.tmp 4)]⟩, []⟩, ⟨0, ⟨(some 26), none, (.load .mlen), [(.tmp 25)]⟩, []⟩, ⟨0, ⟨none, none, (.imp (.store 1)), [(.tmp 2), (.tmp 26)]⟩, []⟩, ⟨0, ⟨none, none, (.imp (.store 1)), [(.tmp 3), (.const (.bool true))]⟩, []⟩]) .ret))))⟩
theorem c_prefix_count : compF Try.prog Try.f33 = some G_prefix_count := by kernel_rfl
theorem gc_prefix_count {args : List DV} {σ : GS} {Post : DV → GS → Prop} (h : @exB Try.prog ⟨G_prefix_count.body⟩ (genv0 args G_prefix_count.ntmps) σ ⟨@gretB G_prefix_count.results ⟨Post⟩⟩) : GCall Try.prog F_prefix_count args σ Post := gcall_ofB seatfollows Try.func33 (by kernel_rfl) c_prefix_count h
noncomputable abbrev GA_prefix_count_0 : GCode := (.region [⟨0, ⟨(some 6), none, (.pure .id), [(.tmp 11)]⟩, []⟩])
theorem ca_prefix_count_0 : comp Try.prog (rngA Try.f33 0) = some GA_prefix_count_0 := by kernel_rfl
noncomputable abbrev GB_prefix_count_0 : GCode := (.block 1 (.seq (.seq (.region [⟨0, ⟨(some 12), none, (.pure .id), [(.tmp 6)]⟩, []⟩, ⟨0, ⟨(some 13), none, (.pure (.bin .lss .none)), [(.tmp 12), (.const (.int .i64 1))]⟩, []⟩, ⟨0, ⟨(some 14), none, (.pure .id), [(.tmp 13)]⟩, []⟩, ⟨0, ⟨(some 15), (some (14, false)), (.pure .id), [(.tmp 6)]⟩, []⟩, ⟨0, ⟨(some 16), (some (14, false)), (.pure (.bin .gtr .none)), [(.tmp 15), (.const (.int .i64 65536))]⟩, []⟩, ⟨0, ⟨(some 17), none, (.pure .pick), [(.tmp 14), (.const (.bool true)), (.tmp 16)]⟩, []⟩, ⟨0, ⟨(some 18), none, (.pure .id), [(.tmp 17)]⟩, []⟩, ⟨0, ⟨(some 19), (some (18, false)), (.load (.load 1 false)), [(.tmp 4)]⟩, []⟩, ⟨0, ⟨(some 20), (some (18, false)), (.pure .id), [(.tmp 6)]⟩, []⟩, ⟨0, ⟨(some 21), (some (18, false)), (.load (.lookup (.int .i64) (.bool false) false)), [(.tmp 19), (.tmp 20)]⟩, []⟩, ⟨0, ⟨(some 22), none, (.pure .pick), [(.tmp 18), (.const (.bool true)), (.tmp 21)]⟩, []⟩]) (.cond (.tmp 22) (.seq (.region [⟨0, ⟨none, none, (.imp (.store 1)), [(.tmp 2), (.const (.int .i64 0))]⟩, []⟩, ⟨0, ⟨none, none, (.imp (.store 1)), [(.tmp 3), (.const (.bool false))]⟩, []⟩]) .ret) .skip)) (.region [⟨0, ⟨(some 23), none, (.load (.load 1 false)), [(.tmp 4)]⟩, []⟩, ⟨0, ⟨(some 24), none, (.pure .id), [(.tmp 6)]⟩, []⟩, ⟨0, ⟨none, none, (.imp (.mset (.int .i64))), [(.tmp 23), (.tmp 24), (.const (.bool true))]⟩, []⟩])))
theorem cb_prefix_count_0 : comp Try.prog (rngB Try.f33 0) = some GB_prefix_count_0 := by kernel_rfl
noncomputable abbrev G_prefix_May : GFun := ⟨44, [(.tmp 2)], (.seq (.region [⟨0, ⟨(some 2), none, (.pure .id), [(.const (.bool false))]⟩, []⟩]) (.seq (.seq (.region [⟨0, ⟨(some 7), none, (.pure .id), [(.tmp 0)]⟩, []⟩, ⟨0, ⟨(some 8), none, (.pure .len), [(.tmp 7)]⟩, []⟩, ⟨0, ⟨(some 9), none, (.pure .id), [(.const (.int .i64 0))]⟩, []⟩]) (.block 0 (.loop (.seq (.region [⟨0, ⟨(some 10), none, (.pure (.bin .lss .none)), [(.tmp 9), (.tmp 8)]⟩, []⟩]) (.seq (.cond (.tmp 10) .skip (.exit 0)) (.seq (.block 1 (.seq (.region [⟨0, ⟨(some 11), none, (.pure .id), [(.tmp 9)]⟩, []⟩, ⟨0, ⟨(some 12), none, (.pure (.iaddr 2)), [(.tmp 7), (.tmp 9)]⟩, []⟩, ⟨0, ⟨(some 13), none, (.load (.load 2 true)), [(.tmp 12)]⟩, []⟩, ⟨0, ⟨(some 4), none, (.new (.alloc [(.bool false), .nils])), []⟩, []⟩, ⟨0, ⟨(some 3), none, (.pure .id), [(.tmp 11)]⟩, []⟩, ⟨0, ⟨none, none, (.imp (.store 2)), [(.tmp 4), (.tmp 13)]⟩, []⟩]) (.seq (.region [⟨0, ⟨(some 14), none, (.pure (.faddr 1)), [(.tmp 4)]⟩, []⟩, ⟨1, ⟨(some 15), none, (.load (.load 1 false)), [(.tmp 14)]⟩, []⟩, ⟨2, ⟨(some 16), none, (.pure .len), [(.tmp 15)]⟩, []⟩, ⟨3, ⟨(some 17), none, (.pure (.bin .eql .none)), [(.tmp 16), (.const (.int .i64 0))]⟩, []⟩, ⟨4, ⟨(some 18), none, (.pure .id), [(.tmp 17)]⟩, []⟩, ⟨5, ⟨(some 19), (some (18, false)), (.pure .id), [(.tmp 3)]⟩, []⟩, ⟨6, ⟨(some 20), (some (18, false)), (.pure (.bin .gtr .none)), [(.tmp 19), (.const (.int .i64 0))]⟩, []⟩, ⟨7, ⟨(some 21), (some (18, false)), (.pure .id), [(.tmp 20)]⟩, []⟩, ⟨8, ⟨(some 22), (some (21, true)), (.pure .id), [(.tmp 0)]⟩, []⟩, ⟨9, ⟨(some 23), (some (21, true)), (.pure .id), [(.tmp 3)]⟩, []⟩, ⟨10, ⟨(some 24), (some (21, true)), (.pure (.bin .sub .none)), [(.tmp 23), (.const (.int .i64 1))]⟩, []⟩, ⟨11, ⟨(some 25), (some (21, true)), (.pure (.iaddr 2)), [(.tmp 22), (.tmp 24)]⟩, []⟩, ⟨12, ⟨(some 26), (some (21, true)), (.pure (.faddr 0)), [(.tmp 25)]⟩, []⟩, ⟨13, ⟨(some 27), (some (21, true)), (.load (.load 1 false)), [(.tmp 26)]⟩, []⟩, ⟨14, ⟨(some 28), (some (21, true)), (.pure (.faddr 0)), [(.tmp 4)]⟩, []⟩, ⟨15, ⟨(some 29), (some (21, true)), (.load (.load 1 false)), [(.tmp 28)]⟩, []⟩, ⟨16, ⟨(some 30), (some (21, true)), (.pure (.bin .eql .bool)), [(.tmp 27), (.tmp 29)]⟩, []⟩, ⟨17, ⟨(some 31), (some (18, false)), (.pure .pick), [(.tmp 21), (.tmp 30), (.const (.bool false))]⟩, []⟩, ⟨18, ⟨(some 32), none, (.pure .pick), [(.tmp 18), (.const (.bool true)), (.tmp 31)]⟩, []⟩]) (.cond (.tmp 32) (.seq (.region [⟨0, ⟨(some 2), none, (.pure .id), [(.const (.bool false))]⟩, []⟩]) .ret) .skip)))) (.region [⟨0, ⟨(some 33), none, (.pure (.bin .add .none)), [(.tmp 9), (.const (.int .i64 1))]⟩, []⟩, ⟨0, ⟨(some 9), none, (.pure .id), [(.tmp 33)]⟩, []⟩]))))))) (.seq (.region [⟨0, ⟨(some 35), none, (.pure .id), [(.tmp 0)]⟩, []⟩, ⟨0, ⟨(some 36), none, (.call F_prefix_count), [(.tmp 35)]⟩, []⟩, ⟨0, ⟨(some 34), none, (.pure .id), [(.tmp 36)]⟩, []⟩, ⟨0, ⟨(some 37), none, (.pure (.extract 0)), [(.tmp 34)]⟩, []⟩, ⟨0, ⟨(some 38), none, (.pure (.extract 1)), [(.tmp 34)]⟩, []⟩, ⟨0, ⟨(some 5), none, (.pure .id), [(.tmp 37)]⟩, []⟩, ⟨0, ⟨(some 6), none, (.pure .id), [(.tmp 38)]⟩, []⟩]) (.seq (.region [⟨0, ⟨(some 39), none, (.pure .id), [(.tmp 6)]⟩, []⟩, ⟨0, ⟨(some 40), none, (.pure .id), [(.tmp 39)]⟩, []⟩, ⟨0, ⟨(some 41), (some (40, true)), (.pure .id), [(.tmp 5)]⟩, []⟩, ⟨0, ⟨(some 42), (some (40, true)), (.pure (.bin .leq .none)), [(.tmp 41), (.const (.int .i64 1024))]⟩, []⟩, ⟨0, ⟨(some 43), none, (.pure .pick), [(.tmp 40), (.tmp 42), (.const (.bool false))]⟩, []⟩, ⟨0, ⟨(some 2), none, (.pure .id), [(.tmp 43)]⟩, []⟩]) .ret))))⟩
theorem c_prefix_May : compF Try.prog Try.f29 = some G_prefix_May := by kernel_rfl
theorem gc_prefix_May {args : List DV} {σ : GS} {Post : DV → GS → Prop} (h : @exB Try.prog ⟨G_prefix_May.body⟩ (genv0 args G_prefix_May.ntmps) σ ⟨@gretB G_prefix_May.results ⟨Post⟩⟩) : GCall Try.prog F_prefix_May args σ Post := gcall_ofB seatfollows Try.func29 (by kernel_rfl) c_prefix_May h
noncomputable abbrev G_prefix_Find : GFun := ⟨24, [(.tmp 4), (.tmp 5), (.tmp 6)], (.seq (.region [⟨0, ⟨(some 4), none, (.pure .id), [(.const (.int .i64 0))]⟩, []⟩, ⟨0, ⟨(some 5), none, (.pure .id), [(.const (.bool false))]⟩, []⟩, ⟨0, ⟨(some 6), none, (.pure .id), [(.const (.bool false))]⟩, []⟩]) (.seq (.seq (.region [⟨0, ⟨(some 9), none, (.pure .id), [(.tmp 0)]⟩, []⟩, ⟨0, ⟨(some 10), none, (.pure .len), [(.tmp 9)]⟩, []⟩, ⟨0, ⟨(some 11), none, (.pure .id), [(.const (.int .i64 0))]⟩, []⟩]) (.block 0 (.loop (.seq (.region [⟨0, ⟨(some 12), none, (.pure (.bin .lss .none)), [(.tmp 11), (.tmp 10)]⟩, []⟩]) (.seq (.cond (.tmp 12) .skip (.exit 0)) (.seq (.block 1 (.seq (.region [⟨0, ⟨(some 13), none, (.pure .id), [(.tmp 11)]⟩, []⟩, ⟨0, ⟨(some 14), none, (.pure (.iaddr 2)), [(.tmp 9), (.tmp 11)]⟩, []⟩, ⟨0, ⟨(some 15), none, (.load (.load 2 true)), [(.tmp 14)]⟩, []⟩, ⟨0, ⟨(some 8), none, (.new (.alloc [(.bool false), .nils])), []⟩, []⟩, ⟨0, ⟨(some 7), none, (.pure .id), [(.tmp 13)]⟩, []⟩, ⟨0, ⟨none, none, (.imp (.store 2)), [(.tmp 8), (.tmp 15)]⟩, []⟩]) (.seq (.region [⟨0, ⟨(some 16), none, (.pure (.faddr 1)), [(.tmp 8)]⟩, []⟩, ⟨0, ⟨(some 17), none, (.load (.load 1 false)), [(.tmp 16)]⟩, []⟩, ⟨0, ⟨(some 18), none, (.pure .id), [(.tmp 1)]⟩, []⟩, ⟨0, ⟨(some 19), none, (.call F_slices_Contains_int_int), [(.tmp 17), (.tmp 18)]⟩, []⟩]) (.cond (.tmp 19) (.seq (.region [⟨0, ⟨(some 20), none, (.pure .id), [(.tmp 7)]⟩, []⟩, ⟨1, ⟨(some 21), none, (.pure (.faddr 0)), [(.tmp 8)]⟩, []⟩, ⟨2, ⟨(some 22), none, (.load (.load 1 false)), [(.tmp 21)]⟩, []⟩, ⟨3, ⟨(some 4), none, (.pure .id), [(.tmp 20)]⟩, []⟩, ⟨4, ⟨(some 5), none, (.pure .id), [(.tmp 22)]⟩, []⟩, ⟨5, ⟨(some 6), none, (.pure .id), [(.const (.bool true))]⟩, []⟩]) .ret) .skip)))) (.region [⟨0, ⟨(some 23), none, (.pure (.bin .add .none)), [(.tmp 11), (.const (.int .i64 1))]⟩, []⟩, ⟨0, ⟨(some 11), none, (.pure .id), [(.tmp 23)]⟩, []⟩]))))))) (.seq (.region [⟨0, ⟨(some 4), none, (.pure .id), [(.const (.int .i64 0))]⟩, []⟩, ⟨0, ⟨(some 5), none, (.pure .id), [(.const (.bool false))]⟩, []⟩, ⟨0, ⟨(some 6), none, (.pure .id), [(.const (.bool false))]⟩, []⟩]) .ret)))⟩
theorem c_prefix_Find : compF Try.prog Try.f21 = some G_prefix_Find := by kernel_rfl
theorem gc_prefix_Find {args : List DV} {σ : GS} {Post : DV → GS → Prop} (h : @exB Try.prog ⟨G_prefix_Find.body⟩ (genv0 args G_prefix_Find.ntmps) σ ⟨@gretB G_prefix_Find.results ⟨Post⟩⟩) : GCall Try.prog F_prefix_Find args σ Post := gcall_ofB seatfollows Try.func21 (by kernel_rfl) c_prefix_Find h
noncomputable abbrev G_slices_Clone_int_int : GFun := ⟨8, [(.tmp 2)], (.seq (.region [⟨0, ⟨(some 2), none, (.pure .id), [(.const .nils)]⟩, []⟩]) (.seq (.seq (.region [⟨0, ⟨(some 3), none, (.pure .id), [(.tmp 0)]⟩, []⟩, ⟨0, ⟨(some 4), none, (.eqn false), [(.tmp 3), (.const .nils)]⟩, []⟩]) (.cond (.tmp 4) (.seq (.region [⟨0, ⟨(some 2), none, (.pure .id), [(.const .nils)]⟩, []⟩]) .ret) .skip)) (.seq (.region [⟨0, ⟨(some 5), none, (.new (.bslice 1 [(.int .i64 0)] 0 [])), []⟩, []⟩, ⟨0, ⟨(some 6), none, (.pure .id), [(.tmp 0)]⟩, []⟩, ⟨0, ⟨(some 7), none, (.imp (.append 1 8)), [(.tmp 5), (.tmp 6)]⟩, []⟩, ⟨0, ⟨(some 2), none, (.pure .id), [(.tmp 7)]⟩, []⟩]) .ret)))⟩
theorem c_slices_Clone_int_int : compF Try.prog Try.f38 = some G_slices_Clone_int_int := by kernel_rfl
theorem gc_slices_Clone_int_int {args : List DV} {σ : GS} {Post : DV → GS → Prop} (h : @exB Try.prog ⟨G_slices_Clone_int_int.body⟩ (genv0 args G_slices_Clone_int_int.ntmps) σ ⟨@gretB G_slices_Clone_int_int.results ⟨Post⟩⟩) : GCall Try.prog F_slices_Clone_int_int args σ Post := gcall_ofB seatfollows Try.func38 (by kernel_rfl) c_slices_Clone_int_int h
noncomputable abbrev G_slices_Contains_int_int : GFun := ⟨9, [(.tmp 4)], (.seq (.region [⟨0, ⟨(some 4), none, (.pure .id), [(.const (.bool false))]⟩, []⟩]) (.seq (.region [⟨0, ⟨(some 5), none, (.pure .id), [(.tmp 0)]⟩, []⟩, ⟨0, ⟨(some 6), none, (.pure .id), [(.tmp 1)]⟩, []⟩, ⟨0, ⟨(some 7), none, (.call F_slices_Index_int_int), [(.tmp 5), (.tmp 6)]⟩, []⟩, ⟨0, ⟨(some 8), none, (.pure (.bin .geq .none)), [(.tmp 7), (.const (.int .i64 0))]⟩, []⟩, ⟨0, ⟨(some 4), none, (.pure .id), [(.tmp 8)]⟩, []⟩]) .ret))⟩
theorem c_slices_Contains_int_int : compF Try.prog Try.f52 = some G_slices_Contains_int_int := by kernel_rfl
theorem gc_slices_Contains_int_int {args : List DV} {σ : GS} {Post : DV → GS → Prop} (h : @exB Try.prog ⟨G_slices_Contains_int_int.body⟩ (genv0 args G_slices_Contains_int_int.ntmps) σ ⟨@gretB G_slices_Contains_int_int.results ⟨Post⟩⟩) : GCall Try.prog F_slices_Contains_int_int args σ Post := gcall_ofB seatfollows Try.func52 (by kernel_rfl) c_slices_Contains_int_int h
noncomputable abbrev G_slices_Index_int_int : GFun := ⟨19, [(.tmp 4)], (.seq (.region [⟨0, ⟨(some 4), none, (.pure .id), [(.const (.int .i64 0))]⟩, []⟩]) (.seq (.seq (.region [⟨0, ⟨(some 6), none, (.pure .id), [(.tmp 0)]⟩, []⟩, ⟨0, ⟨(some 7), none, (.pure .len), [(.tmp 6)]⟩, []⟩, ⟨0, ⟨(some 8), none, (.pure .id), [(.const (.int .i64 0))]⟩, []⟩]) (.block 0 (.loop (.seq (.region [⟨0, ⟨(some 9), none, (.pure (.bin .lss .none)), [(.tmp 8), (.tmp 7)]⟩, []⟩]) (.seq (.cond (.tmp 9) .skip (.exit 0)) (.seq (.block 1 (.seq (.region [⟨0, ⟨(some 10), none, (.pure .id), [(.tmp 8)]⟩, []⟩, ⟨0, ⟨(some 5), none, (.pure .id), [(.tmp 10)]⟩, []⟩]) (.seq (.region [⟨0, ⟨(some 11), none, (.pure .id), [(.tmp 1)]⟩, []⟩, ⟨0, ⟨(some 12), none, (.pure .id), [(.tmp 0)]⟩, []⟩, ⟨0, ⟨(some 13), none, (.pure .id), [(.tmp 5)]⟩, []⟩, ⟨0, ⟨(some 14), none, (.pure (.iaddr 1)), [(.tmp 12), (.tmp 13)]⟩, []⟩, ⟨0, ⟨(some 15), none, (.load (.load 1 false)), [(.tmp 14)]⟩, []⟩, ⟨0, ⟨(some 16), none, (.pure (.bin .eql .none)), [(.tmp 11), (.tmp 15)]⟩, []⟩]) (.cond (.tmp 16) (.seq (.region [⟨0, ⟨(some 17), none, (.pure .id), [(.tmp 5)]⟩, []⟩, ⟨0, ⟨(some 4), none, (.pure .id), [(.tmp 17)]⟩, []⟩]) .ret) .skip)))) (.region [⟨0, ⟨(some 18), none, (.pure (.bin .add .none)), [(.tmp 8), (.const (.int .i64 1))]⟩, []⟩, ⟨0, ⟨(some 8), none, (.pure .id), [(.tmp 18)]⟩, []⟩]))))))) (.seq (.region [⟨0, ⟨(some 4), none, (.pure .id), [(.const (.int .i64 (-1)))]⟩, []⟩]) .ret)))⟩
theorem c_slices_Index_int_int : compF Try.prog Try.f74 = some G_slices_Index_int_int := by kernel_rfl
theorem gc_slices_Index_int_int {args : List DV} {σ : GS} {Post : DV → GS → Prop} (h : @exB Try.prog ⟨G_slices_Index_int_int.body⟩ (genv0 args G_slices_Index_int_int.ntmps) σ ⟨@gretB G_slices_Index_int_int.results ⟨Post⟩⟩) : GCall Try.prog F_slices_Index_int_int args σ Post := gcall_ofB seatfollows Try.func74 (by kernel_rfl) c_slices_Index_int_int h
noncomputable abbrev G_prefix_before : GFun := ⟨25, [(.tmp 4)], (.seq (.region [⟨0, ⟨(some 4), none, (.pure .id), [(.const .nils)]⟩, []⟩]) (.seq (.seq (.region [⟨0, ⟨(some 7), none, (.pure .id), [(.tmp 0)]⟩, []⟩, ⟨0, ⟨(some 8), none, (.pure .len), [(.tmp 7)]⟩, []⟩, ⟨0, ⟨(some 9), none, (.pure .id), [(.const (.int .i64 0))]⟩, []⟩]) (.block 0 (.loop (.seq (.region [⟨0, ⟨(some 10), none, (.pure (.bin .lss .none)), [(.tmp 9), (.tmp 8)]⟩, []⟩]) (.seq (.cond (.tmp 10) .skip (.exit 0)) (.seq (.block 1 (.seq (.region [⟨0, ⟨(some 11), none, (.pure (.iaddr 2)), [(.tmp 7), (.tmp 9)]⟩, []⟩, ⟨0, ⟨(some 12), none, (.load (.load 2 true)), [(.tmp 11)]⟩, []⟩, ⟨0, ⟨(some 6), none, (.new (.alloc [(.bool false), .nils])), []⟩, []⟩, ⟨0, ⟨none, none, (.imp (.store 2)), [(.tmp 6), (.tmp 12)]⟩, []⟩]) (.seq (.region [⟨0, ⟨(some 13), none, (.pure (.faddr 0)), [(.tmp 6)]⟩, []⟩, ⟨0, ⟨(some 14), none, (.load (.load 1 false)), [(.tmp 13)]⟩, []⟩, ⟨0, ⟨(some 15), none, (.pure .id), [(.tmp 1)]⟩, []⟩, ⟨0, ⟨(some 16), none, (.pure (.bin .eql .bool)), [(.tmp 14), (.tmp 15)]⟩, []⟩]) (.cond (.tmp 16) (.region [⟨0, ⟨(some 17), none, (.pure .id), [(.tmp 4)]⟩, []⟩, ⟨0, ⟨(some 18), none, (.pure (.faddr 1)), [(.tmp 6)]⟩, []⟩, ⟨0, ⟨(some 19), none, (.load (.load 1 false)), [(.tmp 18)]⟩, []⟩, ⟨0, ⟨(some 20), none, (.imp (.append 1 8)), [(.tmp 17), (.tmp 19)]⟩, []⟩, ⟨0, ⟨(some 4), none, (.pure .id), [(.tmp 20)]⟩, []⟩]) .skip)))) (.region [⟨0, ⟨(some 21), none, (.pure (.bin .add .none)), [(.tmp 9), (.const (.int .i64 1))]⟩, []⟩, ⟨0, ⟨(some 9), none, (.pure .id), [(.tmp 21)]⟩, []⟩]))))))) (.seq (.region [⟨0, ⟨(some 22), none, (.pure .id), [(.tmp 4)]⟩, []⟩, ⟨0, ⟨(some 23), none, (.call F_slices_Sort_int_int), [(.tmp 22)]⟩, []⟩]) (.seq (.region [⟨0, ⟨(some 24), none, (.pure .id), [(.tmp 4)]⟩, []⟩, ⟨0, ⟨(some 4), none, (.pure .id), [(.tmp 24)]⟩, []⟩]) .ret))))⟩
theorem c_prefix_before : compF Try.prog Try.f51 = some G_prefix_before := by kernel_rfl
theorem gc_prefix_before {args : List DV} {σ : GS} {Post : DV → GS → Prop} (h : @exB Try.prog ⟨G_prefix_before.body⟩ (genv0 args G_prefix_before.ntmps) σ ⟨@gretB G_prefix_before.results ⟨Post⟩⟩) : GCall Try.prog F_prefix_before args σ Post := gcall_ofB seatfollows Try.func51 (by kernel_rfl) c_prefix_before h
noncomputable abbrev G_prefix_On : GFun := ⟨27, [(.tmp 4), (.tmp 5)], (.seq (.region [⟨0, ⟨(some 4), none, (.pure .id), [(.const .nils)]⟩, []⟩, ⟨0, ⟨(some 5), none, (.pure .id), [(.const (.int .i64 0))]⟩, []⟩]) (.seq (.seq (.region [⟨0, ⟨(some 9), none, (.pure .id), [(.tmp 0)]⟩, []⟩, ⟨0, ⟨(some 10), none, (.call F_prefix_May), [(.tmp 9)]⟩, []⟩, ⟨0, ⟨(some 11), none, (.pure (.un .not)), [(.tmp 10)]⟩, []⟩]) (.cond (.tmp 11) (.seq (.region [⟨0, ⟨(some 4), none, (.pure .id), [(.const .nils)]⟩, []⟩, ⟨0, ⟨(some 5), none, (.pure .id), [(.const (.int .i64 2))]⟩, []⟩]) .ret) .skip)) (.seq (.region [⟨0, ⟨(some 13), none, (.pure .id), [(.tmp 0)]⟩, []⟩, ⟨0, ⟨(some 14), none, (.pure .id), [(.tmp 1)]⟩, []⟩, ⟨0, ⟨(some 15), none, (.call F_prefix_Find), [(.tmp 13), (.tmp 14)]⟩, []⟩, ⟨0, ⟨(some 12), none, (.pure .id), [(.tmp 15)]⟩, []⟩, ⟨0, ⟨(some 16), none, (.pure (.extract 0)), [(.tmp 12)]⟩, []⟩, ⟨0, ⟨(some 17), none, (.pure (.extract 1)), [(.tmp 12)]⟩, []⟩, ⟨0, ⟨(some 18), none, (.pure (.extract 2)), [(.tmp 12)]⟩, []⟩, ⟨0, ⟨(some 6), none, (.pure .id), [(.tmp 16)]⟩, []⟩, ⟨0, ⟨(some 7), none, (.pure .id), [(.tmp 17)]⟩, []⟩, ⟨0, ⟨(some 8), none, (.pure .id), [(.tmp 18)]⟩, []⟩]) (.seq (.seq (.region [⟨0, ⟨(some 19), none, (.pure .id), [(.tmp 8)]⟩, []⟩, ⟨0, ⟨(some 20), none, (.pure (.un .not)), [(.tmp 19)]⟩, []⟩]) (.cond (.tmp 20) (.seq (.region [⟨0, ⟨(some 4), none, (.pure .id), [(.const .nils)]⟩, []⟩, ⟨0, ⟨(some 5), none, (.pure .id), [(.const (.int .i64 6))]⟩, []⟩]) .ret) .skip)) (.seq (.region [⟨0, ⟨(some 21), none, (.pure .id), [(.tmp 0)]⟩, []⟩, ⟨0, ⟨(some 22), none, (.pure .id), [(.tmp 6)]⟩, []⟩, ⟨0, ⟨(some 23), none, (.pure (.slice 2 false true false)), [(.tmp 21), (.tmp 22)]⟩, []⟩, ⟨0, ⟨(some 24), none, (.pure .id), [(.tmp 7)]⟩, []⟩, ⟨0, ⟨(some 25), none, (.pure (.un .not)), [(.tmp 24)]⟩, []⟩, ⟨0, ⟨(some 26), none, (.call F_prefix_before), [(.tmp 23), (.tmp 25)]⟩, []⟩, ⟨0, ⟨(some 4), none, (.pure .id), [(.tmp 26)]⟩, []⟩, ⟨0, ⟨(some 5), none, (.pure .id), [(.const (.int .i64 0))]⟩, []⟩]) .ret)))))⟩
theorem c_prefix_On : compF Try.prog Try.f20 = some G_prefix_On := by kernel_rfl
theorem gc_prefix_On {args : List DV} {σ : GS} {Post : DV → GS → Prop} (h : @exB Try.prog ⟨G_prefix_On.body⟩ (genv0 args G_prefix_On.ntmps) σ ⟨@gretB G_prefix_On.results ⟨Post⟩⟩) : GCall Try.prog F_prefix_On args σ Post := gcall_ofB seatfollows Try.func20 (by kernel_rfl) c_prefix_On h
noncomputable abbrev G_prefix_joined : GFun := ⟨56, [(.tmp 2)], (.seq (.region [⟨0, ⟨(some 2), none, (.pure .id), [(.const .nils)]⟩, []⟩]) (.seq (.seq (.region [⟨0, ⟨(some 6), none, (.pure .id), [(.tmp 0)]⟩, []⟩, ⟨0, ⟨(some 7), none, (.pure .len), [(.tmp 6)]⟩, []⟩, ⟨0, ⟨(some 8), none, (.pure .id), [(.const (.int .i64 0))]⟩, []⟩]) (.block 0 (.loop (.seq (.region [⟨0, ⟨(some 9), none, (.pure (.bin .lss .none)), [(.tmp 8), (.tmp 7)]⟩, []⟩]) (.seq (.cond (.tmp 9) .skip (.exit 0)) (.seq (.block 1 (.seq (.region [⟨0, ⟨(some 10), none, (.pure (.iaddr 2)), [(.tmp 6), (.tmp 8)]⟩, []⟩, ⟨0, ⟨(some 11), none, (.load (.load 2 true)), [(.tmp 10)]⟩, []⟩, ⟨0, ⟨(some 4), none, (.new (.alloc [(.bool false), .nils])), []⟩, []⟩, ⟨0, ⟨none, none, (.imp (.store 2)), [(.tmp 4), (.tmp 11)]⟩, []⟩]) (.seq (.region [⟨0, ⟨(some 12), none, (.pure .id), [(.tmp 2)]⟩, []⟩, ⟨0, ⟨(some 13), none, (.pure .len), [(.tmp 12)]⟩, []⟩, ⟨0, ⟨(some 14), none, (.pure (.bin .sub .none)), [(.tmp 13), (.const (.int .i64 1))]⟩, []⟩, ⟨0, ⟨(some 5), none, (.pure .id), [(.tmp 14)]⟩, []⟩]) (.block 2 (.seq (.region [⟨0, ⟨(some 25), none, (.pure (.faddr 1)), [(.tmp 4)]⟩, []⟩, ⟨0, ⟨(some 26), none, (.load (.load 1 false)), [(.tmp 25)]⟩, []⟩, ⟨0, ⟨(some 27), none, (.pure .len), [(.tmp 26)]⟩, []⟩, ⟨0, ⟨(some 28), none, (.pure (.bin .eql .none)), [(.tmp 27), (.const (.int .i64 0))]⟩, []⟩, ⟨0, ⟨(some 24), none, (.pure .id), [(.tmp 28)]⟩, []⟩]) (.cond (.tmp 24) .skip (.seq (.region [⟨0, ⟨(some 30), none, (.pure .id), [(.tmp 5)]⟩, []⟩, ⟨1, ⟨(some 31), none, (.pure (.bin .geq .none)), [(.tmp 30), (.const (.int .i64 0))]⟩, []⟩, ⟨2, ⟨(some 32), none, (.pure .id), [(.tmp 31)]⟩, []⟩, ⟨3, ⟨(some 33), (some (32, true)), (.pure .id), [(.tmp 2)]⟩, []⟩, ⟨4, ⟨(some 34), (some (32, true)), (.pure .id), [(.tmp 5)]⟩, []⟩, ⟨5, ⟨(some 35), (some (32, true)), (.pure (.iaddr 2)), [(.tmp 33), (.tmp 34)]⟩, []⟩, ⟨6, ⟨(some 36), (some (32, true)), (.pure (.faddr 0)), [(.tmp 35)]⟩, []⟩, ⟨7, ⟨(some 37), (some (32, true)), (.load (.load 1 false)), [(.tmp 36)]⟩, []⟩, ⟨8, ⟨(some 38), (some (32, true)), (.pure (.faddr 0)), [(.tmp 4)]⟩, []⟩, ⟨9, ⟨(some 39), (some (32, true)), (.load (.load 1 false)), [(.tmp 38)]⟩, []⟩, ⟨10, ⟨(some 40), (some (32, true)), (.pure (.bin .eql .bool)), [(.tmp 37), (.tmp 39)]⟩, []⟩, ⟨11, ⟨(some 41), none, (.pure .pick), [(.tmp 32), (.tmp 40), (.const (.bool false))]⟩, []⟩, ⟨12, ⟨(some 29), none, (.pure .id), [(.tmp 41)]⟩, []⟩]) (.cond (.tmp 29) (.region [⟨0, ⟨(some 42), none, (.pure .id), [(.tmp 2)]⟩, []⟩, ⟨1, ⟨(some 43), none, (.pure .id), [(.tmp 5)]⟩, []⟩, ⟨2, ⟨(some 44), none, (.pure .id), [(.tmp 2)]⟩, []⟩, ⟨3, ⟨(some 45), none, (.pure .id), [(.tmp 5)]⟩, []⟩, ⟨4, ⟨(some 46), none, (.pure (.iaddr 2)), [(.tmp 44), (.tmp 45)]⟩, []⟩, ⟨5, ⟨(some 47), none, (.pure (.faddr 1)), [(.tmp 46)]⟩, []⟩, ⟨6, ⟨(some 48), none, (.load (.load 1 false)), [(.tmp 47)]⟩, []⟩, ⟨7, ⟨(some 49), none, (.pure (.faddr 1)), [(.tmp 4)]⟩, []⟩, ⟨8, ⟨(some 50), none, (.load (.load 1 false)), [(.tmp 49)]⟩, []⟩, ⟨9, ⟨(some 51), none, (.imp (.append 1 8)), [(.tmp 48), (.tmp 50)]⟩, []⟩, ⟨10, ⟨(some 52), none, (.pure (.iaddr 2)), [(.tmp 42), (.tmp 43)]⟩, []⟩, ⟨11, ⟨(some 53), none, (.pure (.faddr 1)), [(.tmp 52)]⟩, []⟩, ⟨12, ⟨none, none, (.imp (.store 1)), [(.tmp 53), (.tmp 51)]⟩, []⟩]) (.region [⟨0, ⟨(some 15), none, (.pure .id), [(.tmp 2)]⟩, []⟩, ⟨1, ⟨(some 16), none, (.pure (.faddr 0)), [(.tmp 4)]⟩, []⟩, ⟨2, ⟨(some 17), none, (.load (.load 1 false)), [(.tmp 16)]⟩, []⟩, ⟨3, ⟨(some 18), none, (.pure (.faddr 1)), [(.tmp 4)]⟩, []⟩, ⟨4, ⟨(some 19), none, (.load (.load 1 false)), [(.tmp 18)]⟩, []⟩, ⟨5, ⟨(some 20), none, (.call F_slices_Clone_int_int), [(.tmp 19)]⟩, [⟨(some 17), none, (.load (.load 1 false)), [(.tmp 16)]⟩]⟩, ⟨6, ⟨(some 21), none, (.pure (.build [(.bool false), .nils] [(0, 1), (1, 1)])), [(.tmp 17), (.tmp 20)]⟩, []⟩, ⟨7, ⟨(some 22), none, (.new (.bslice 2 [(.bool false), .nils] 1 [(0, 2)])), [(.tmp 21)]⟩, []⟩, ⟨8, ⟨(some 23), none, (.imp (.append 2 32)), [(.tmp 15), (.tmp 22)]⟩, []⟩, ⟨9, ⟨(some 2), none, (.pure .id), [(.tmp 23)]⟩, []⟩]))))))))) (.region [⟨0, ⟨(some 54), none, (.pure (.bin .add .none)), [(.tmp 8), (.const (.int .i64 1))]⟩, []⟩, ⟨0, ⟨(some 8), none, (.pure .id), [(.tmp 54)]⟩, []⟩]))))))) (.seq (.region [⟨0, ⟨(some 55), none, (.pure .id), [(.tmp 2)]⟩, []⟩, ⟨0, ⟨(some 2), none, (.pure .id), [(.tmp 55)]⟩, []⟩]) .ret)))⟩
theorem c_prefix_joined : compF Try.prog Try.f34 = some G_prefix_joined := by kernel_rfl
theorem gc_prefix_joined {args : List DV} {σ : GS} {Post : DV → GS → Prop} (h : @exB Try.prog ⟨G_prefix_joined.body⟩ (genv0 args G_prefix_joined.ntmps) σ ⟨@gretB G_prefix_joined.results ⟨Post⟩⟩) : GCall Try.prog F_prefix_joined args σ Post := gcall_ofB seatfollows Try.func34 (by kernel_rfl) c_prefix_joined h
noncomputable abbrev G_prefix_Join : GFun := ⟨19, [(.tmp 2), (.tmp 3)], (.seq (.region [⟨0, ⟨(some 2), none, (.pure .id), [(.const .nils)]⟩, []⟩, ⟨0, ⟨(some 3), none, (.pure .id), [(.const (.int .i64 0))]⟩, []⟩]) (.seq (.region [⟨0, ⟨(some 7), none, (.pure .id), [(.tmp 0)]⟩, []⟩, ⟨0, ⟨(some 8), none, (.call F_prefix_count), [(.tmp 7)]⟩, []⟩, ⟨0, ⟨(some 6), none, (.pure .id), [(.tmp 8)]⟩, []⟩, ⟨0, ⟨(some 9), none, (.pure (.extract 0)), [(.tmp 6)]⟩, []⟩, ⟨0, ⟨(some 10), none, (.pure (.extract 1)), [(.tmp 6)]⟩, []⟩, ⟨0, ⟨(some 4), none, (.pure .id), [(.tmp 9)]⟩, []⟩, ⟨0, ⟨(some 5), none, (.pure .id), [(.tmp 10)]⟩, []⟩]) (.seq (.block 0 (.seq (.region [⟨0, ⟨(some 12), none, (.pure .id), [(.tmp 5)]⟩, []⟩, ⟨0, ⟨(some 13), none, (.pure (.un .not)), [(.tmp 12)]⟩, []⟩, ⟨0, ⟨(some 11), none, (.pure .id), [(.tmp 13)]⟩, []⟩]) (.cond (.tmp 11) (.seq (.region [⟨0, ⟨(some 2), none, (.pure .id), [(.const .nils)]⟩, []⟩, ⟨0, ⟨(some 3), none, (.pure .id), [(.const (.int .i64 2))]⟩, []⟩]) .ret) (.seq (.region [⟨0, ⟨(some 15), none, (.pure .id), [(.tmp 4)]⟩, []⟩, ⟨0, ⟨(some 16), none, (.pure (.bin .gtr .none)), [(.tmp 15), (.const (.int .i64 1024))]⟩, []⟩, ⟨0, ⟨(some 14), none, (.pure .id), [(.tmp 16)]⟩, []⟩]) (.cond (.tmp 14) (.seq (.region [⟨0, ⟨(some 2), none, (.pure .id), [(.const .nils)]⟩, []⟩, ⟨0, ⟨(some 3), none, (.pure .id), [(.const (.int .i64 3))]⟩, []⟩]) .ret) .skip))))) (.seq (.region [⟨0, ⟨(some 17), none, (.pure .id), [(.tmp 0)]⟩, []⟩, ⟨0, ⟨(some 18), none, (.call F_prefix_joined), [(.tmp 17)]⟩, []⟩, ⟨0, ⟨(some 2), none, (.pure .id), [(.tmp 18)]⟩, []⟩, ⟨0, ⟨(some 3), none, (.pure .id), [(.const (.int .i64 0))]⟩, []⟩]) .ret))))⟩
theorem c_prefix_Join : compF Try.prog Try.f10 = some G_prefix_Join := by kernel_rfl
theorem gc_prefix_Join {args : List DV} {σ : GS} {Post : DV → GS → Prop} (h : @exB Try.prog ⟨G_prefix_Join.body⟩ (genv0 args G_prefix_Join.ntmps) σ ⟨@gretB G_prefix_Join.results ⟨Post⟩⟩) : GCall Try.prog F_prefix_Join args σ Post := gcall_ofB seatfollows Try.func10 (by kernel_rfl) c_prefix_Join h
end Go.Gh
namespace Go.Gh
open Go.RowKit Go.Proofs
set_option linter.unusedVariables false
set_option linter.unusedSimpArgs false
set_option maxRecDepth 100000
theorem r_Ints_ok {xs ys : List Int} {σ : GS} {Post : DV → GS → Prop} (hl : xs.length < 2 ^ 60) (h : Post (.bool (decide (xs = ys))) σ) : GCall Try.prog F_skolemref03_Ints [fints xs, fints ys] σ Post := by
  refine gc_skolemref03_Ints ?_
  by_cases hlen : xs.length = ys.length
  rotate_left
  · have hne : xs ≠ ys := fun e => hlen (by rw [e])
    have hlen' : ¬ ((xs.length : Int) = ys.length) := by omega
    simp [G_skolemref03_Ints, genv0, List.replicate, hlen']
    simpa [hne] using h
  simp [G_skolemref03_Ints, genv0, List.replicate, hlen]
  refine gfor xs.length (fun i e σ' => σ' = σ ∧ (xs = ys ↔ xs.drop i = ys.drop i) ∧ e = mkEnv 26 [(0, fints xs), (1, fints ys), (5, .int .i64 i)]) _ ?_ ⟨rfl, by simp, rfl⟩ ?_
  · simp [mkEnv, List.replicate]
  rintro i _ _ hi ⟨rfl, hI, rfl⟩
  simp [mkEnv, List.replicate]
  by_cases hlt : i < xs.length
  · obtain ⟨x, hx⟩ := nth_lt hlt
    obtain ⟨y, hy⟩ := nth_lt (l := ys) (i := i) (by omega)
    rw [drop_get hx, drop_get hy, List.cons.injEq] at hI
    have es : IntKind.i64.wrap ((i : Int) + 1) = (i : Int) + 1 := by rw [wrap_small] <;> omega
    by_cases c : x = y
    · simp [hlt, hx, hy, c, es]
      exact forK_go _ hlt (by simp [mkEnv, List.replicate]) ⟨rfl, by rw [hI]; simp [c], rfl⟩
    · have hne : xs ≠ ys := fun e => c (hI.1 e).1
      simp [hlt, hx, hy, c]
      simpa [hne] using h
  · have : i = xs.length := by omega
    subst this
    have he : xs = ys := hI.2 (by rw [List.drop_length, hlen, List.drop_length])
    simp
    simpa [he] using h
end Go.Gh
namespace Go.Gh
open Go.RowKit Go.Proofs
set_option linter.unusedVariables false
set_option linter.unusedSimpArgs false
set_option maxRecDepth 100000
/-- Whatever it says of the size. -/
theorem l_wide_any {p : List Blk} {c : List (List Int)} {most : Int} {σ : GS} {Post : DV → GS → Prop} (hp : p.length < 2 ^ 60) (hc : c.length < 2 ^ 60) (h : ∀ b, Post (.bool b) σ) : GCall Try.prog F_skolemlaw03_wide [fblks p, fcls c, .int .i64 most] σ Post := by
  refine gc_skolemlaw03_wide ?_
  simp [G_skolemlaw03_wide, genv0, List.replicate]
  refine gfor p.length (fun i e σ' => σ' = σ ∧ ∃ n, e = mkEnv 45 [(0, fblks p), (1, fcls c), (2, .int .i64 most), (7, .int .i64 n), (8, .int .i64 i)]) _ ?_ ⟨rfl, IntKind.i64.wrap ((p.length : Int) + c.length), rfl⟩ ?_
  · simp [mkEnv, List.replicate]
  rintro i _ σ hi ⟨rfl, n, rfl⟩
  simp [mkEnv, List.replicate]
  by_cases hlt : i < p.length
  · obtain ⟨x, hx⟩ := nth_lt hlt
    have es : IntKind.i64.wrap ((i : Int) + 1) = (i : Int) + 1 := by rw [wrap_small] <;> omega
    simp [hlt, hx, es]
    exact forK_go _ hlt (by simp [mkEnv, List.replicate]) ⟨rfl, IntKind.i64.wrap (n + x.2.length), rfl⟩
  have : i = p.length := by omega
  subst this
  simp
  refine gfor c.length (fun i e σ' => σ' = σ ∧ ∃ n, e = mkEnv 45 [(1, fcls c), (2, .int .i64 most), (7, .int .i64 n), (9, .int .i64 i)]) _ ?_ ⟨rfl, n, rfl⟩ ?_
  · simp [mkEnv, List.replicate]
  rintro i _ _ hi ⟨rfl, n, rfl⟩
  simp [mkEnv, List.replicate]
  by_cases hlt : i < c.length
  · obtain ⟨x, hx⟩ := nth_lt hlt
    have es : IntKind.i64.wrap ((i : Int) + 1) = (i : Int) + 1 := by rw [wrap_small] <;> omega
    simp [hlt, hx, es]
    exact forK_go _ hlt (by simp [mkEnv, List.replicate]) ⟨rfl, IntKind.i64.wrap (n + x.length), rfl⟩
  have : i = c.length := by omega
  subst this
  simp
  exact h _
end Go.Gh
namespace Go.Gh
open Go.RowKit Go.Proofs
set_option linter.unusedVariables false
set_option linter.unusedSimpArgs false
set_option maxRecDepth 100000
theorem r_Has_ok {a : List Int} {x : Int} {σ : GS} {Post : DV → GS → Prop} (hl : a.length < 2 ^ 60) (h : Post (.bool (a.contains x)) σ) : GCall Try.prog F_skolemref03_Has [fints a, .int .i64 x] σ Post := by
  refine gc_skolemref03_Has ?_
  simp [G_skolemref03_Has, genv0, List.replicate]
  refine gfor a.length (fun i e σ' => σ' = σ ∧ a.contains x = (a.drop i).contains x ∧ e = mkEnv 18 [(0, fints a), (1, .int .i64 x), (5, .int .i64 i)]) _ ?_ ⟨rfl, by simp, rfl⟩ ?_
  · simp [mkEnv, List.replicate]
  rintro i _ _ hi ⟨rfl, hI, rfl⟩
  simp [mkEnv, List.replicate]
  by_cases hlt : i < a.length
  · obtain ⟨y, hy⟩ := nth_lt hlt
    rw [drop_get hy, List.contains_cons] at hI
    have es : IntKind.i64.wrap ((i : Int) + 1) = (i : Int) + 1 := by rw [wrap_small] <;> omega
    by_cases c : y = x
    · have c' : (x == y) = true := by simp [c]
      simp [hlt, hy, c]
      rw [hI, c'] at h; simpa using h
    · have c' : (x == y) = false := by simpa using fun e => c e.symm
      simp [hlt, hy, c, es]
      exact forK_go _ hlt (by simp [mkEnv, List.replicate]) ⟨rfl, by rw [hI, c']; simp, rfl⟩
  · have : i = a.length := by omega
    subst this
    simp
    rw [hI] at h; simpa using h
theorem r_single_ok {l : List Int} {σ : GS} {Post : DV → GS → Prop} (hl : l.length < 2 ^ 60) (h : Post (.bool (singleS [] l)) σ) : GCall Try.prog F_skolemref03_single [fints l] σ Post := by
  refine gc_skolemref03_single ?_
  simp [G_skolemref03_single, genv0, List.replicate]
  refine gfor l.length (fun i e σ' => σ' = σ ∧ singleS [] l = singleS (l.take i) (l.drop i) ∧ e = mkEnv 32 [(0, fints l), (3, .int .i64 i)]) _ ?_ ⟨rfl, by simp, rfl⟩ ?_
  · simp [mkEnv, List.replicate]
  rintro i _ _ hi ⟨rfl, hI, rfl⟩
  simp [mkEnv, List.replicate]
  by_cases hlt : i < l.length
  · obtain ⟨y, hy⟩ := nth_lt hlt
    have hy' := nth_get hy
    rw [drop_get hy', singleS] at hI
    have es : IntKind.i64.wrap ((i : Int) + 1) = (i : Int) + 1 := by rw [wrap_small] <;> omega
    have hsl : gpure (.slice 1 false true false) [fints l, .int .i64 i] = some (fints (l.take i)) := by
      simp only [gpure, gslice, if_true, gbm, Option.bind_some, gbh, gbl, gbound, List.length_map]
      rw [if_pos (by omega)]
      simp [List.map_take]
    by_cases h1 : 1 ≤ y
    rotate_left
    · have h1' : y < 1 := by omega
      simp [hlt, hy, h1']
      rw [hI] at h; simpa [isVar, h1] using h
    have h1' : ¬ y < 1 := by omega
    by_cases h2 : y ≤ 65536
    rotate_left
    · have h2' : 65536 < y := by omega
      simp [hlt, hy, h1', h2']
      rw [hI] at h; simpa [isVar, h1, h2] using h
    have h2' : ¬ 65536 < y := by omega
    simp [hlt, hy, h1', h2', hsl]
    refine r_Has_ok (by simp; omega) ?_
    by_cases c : (l.take i).contains y = true
    · rw [c]
      simp
      rw [hI, c] at h; simpa using h
    · have c' : (l.take i).contains y = false := by simpa using c
      rw [c']
      simp [es]
      exact forK_go _ hlt (by simp [mkEnv, List.replicate]) ⟨rfl, by rw [hI, c', take_get hy']; simp [isVar, h1, h2], rfl⟩
  · have : i = l.length := by omega
    subst this
    simp
    rw [hI] at h; simpa [singleS] using h
theorem r_Flat_ok {p : List Blk} {σ : GS} {Post : DV → GS → Prop} (hp : lensB p < 2 ^ 40) (h : Post (fints (flatB p)) σ) : GCall Try.prog F_skolemref03_Flat [fblks p] σ Post := by
  have hlb := lensB_flat p
  refine GCall.pure (r := fints (flatB p)) ?_ (by simp) h
  refine gc_skolemref03_Flat ?_
  simp [G_skolemref03_Flat, genv0, List.replicate]
  refine gfor p.length (fun i e σ' => Fr σ.length σ σ' ∧ ∃ s, Own σ.length 1 eint σ' s (flatB (p.take i)) ∧ e = mkEnv 19 [(0, fblks p), (3, s), (4, .int .i64 i)]) _ ?_ ⟨.rfl', .nils, by simpa using Own.nil, rfl⟩ ?_
  · simp [mkEnv, List.replicate]
  rintro i _ σ' hi ⟨hF, s, hO, rfl⟩
  simp [mkEnv, List.replicate]
  by_cases hlt : i < p.length
  · obtain ⟨b, hb⟩ := nth_lt hlt
    have hb' := nth_get hb
    have es : IntKind.i64.wrap ((i : Int) + 1) = (i : Int) + 1 := by rw [wrap_small] <;> omega
    have htk : flatB (p.take (i + 1)) = flatB (p.take i) ++ b.2 := by rw [take_get hb', flatB_append]; simp
    have hle : (flatB (p.take i)).length + b.2.length ≤ (flatB p).length := by
      have : flatB p = flatB (p.take (i + 1)) ++ flatB (p.drop (i + 1)) := by rw [← flatB_append, List.take_append_drop]
      rw [this, htk]; simp
    have hge := hF.len
    obtain ⟨s', σ2, q1, q2, q3, q4, q5, q6, q7⟩ := hO.append (by_ := 8) (x := fints b.2) (ys := b.2) (fun _ => rfl) (by simpa [flatMap_flatten] using gread_fsl (σ := σ') (sz := 1) (es := b.2.map eint)) (by simp [glen]) (by simp) hge (by omega) (by decide)
    simp [hlt, hb, q1, es]
    exact forK_go _ hlt (by simp [mkEnv, List.replicate]) ⟨hF.trans q3, s', by rw [htk]; exact q2, rfl⟩
  · have : i = p.length := by omega
    subst this
    rw [List.take_length] at hO
    simp
    exact ⟨hF, hO.rd (fun _ => rfl) fun i hi => .inl hi⟩
theorem altB_step {prev : Option Bool} {b : Blk} {p : List Blk} : altB prev (b :: p) = (!b.2.isEmpty && decide (prev ≠ some b.1) && altB (some b.1) p) := rfl
/-- The quantifier of the block before. -/
def prevB (p : List Blk) : Nat → Option Bool
  | 0 => none
  | i + 1 => (p[i]?).map (·.1)
theorem r_May_ok {p : List Blk} {σ : GS} {Post : DV → GS → Prop} (hp : lensB p < 2 ^ 40) (h : Post (.bool (mayB p)) σ) : GCall Try.prog F_skolemref03_May [fblks p] σ Post := by
  have hlb := lensB_flat p
  refine GCall.say (r := .bool (mayB p)) ?_ rfl h
  refine gc_skolemref03_May ?_
  simp [G_skolemref03_May, genv0, List.replicate]
  refine gfor p.length (fun i e σ' => σ' = σ ∧ altB none p = altB (prevB p i) (p.drop i) ∧ e = mkEnv 45 [(0, fblks p), (3, .int .i64 i)]) _ ?_ ⟨rfl, by simp [prevB], rfl⟩ ?_
  · simp [mkEnv, List.replicate]
  rintro i _ _ hi ⟨rfl, hI, rfl⟩
  simp [mkEnv, List.replicate]
  by_cases hlt : i < p.length
  · obtain ⟨b, hb⟩ := nth_lt hlt
    have hb' := nth_get hb
    rw [drop_get hb', altB_step] at hI
    have es : IntKind.i64.wrap ((i : Int) + 1) = (i : Int) + 1 := by rw [wrap_small] <;> omega
    by_cases h0 : b.2.length = 0
    · have h0' : b.2 = [] := List.length_eq_zero_iff.1 h0
      simp [hlt, hb, h0']
      simp [mayB, hI, h0']
      exact .rfl'
    have h0' : ¬ (b.2 = []) := fun e => h0 (by rw [e]; rfl)
    have h0'' : ¬ ((b.2.length : Int) = 0) := by omega
    cases i with
    | zero =>
      simp [hlt, hb, h0', h0'']
      exact forK_go _ hlt (by simp [mkEnv, List.replicate]) ⟨rfl, by simp [hI, prevB, hb', h0'], rfl⟩
    | succ i =>
      obtain ⟨c, hc⟩ := nth_lt (l := p) (i := i) (by omega)
      have hc' := nth_get hc
      have ew' : IntKind.i64.wrap (i : Int) = i := by rw [wrap_small] <;> omega
      have hge : (0 : Int) ≤ (i : Int) + 1 := by omega
      have hgt : (0 : Int) < (i : Int) + 1 := by omega
      have htn : ((i : Int) + 1).toNat = i + 1 := by omega
      have es2 : IntKind.i64.wrap ((i : Int) + 1 + 1) = (i : Int) + 1 + 1 := by rw [wrap_small] <;> omega
      by_cases he : c.1 = b.1
      · simp [hlt, hb, h0', h0'', hge, hgt, htn, ew', hc, he]
        simp [mayB, hI, prevB, hc', he]
        exact .rfl'
      · have he2 : (c.1 == b.1) = false := by simpa using he
        simp [hlt, hb, h0', h0'', hge, hgt, htn, ew', hc, he2, es2]
        exact forK_go _ hlt (by simp [mkEnv, List.replicate]) ⟨rfl, by simp [hI, prevB, hc', he, h0', hb'], rfl⟩
  · have : i = p.length := by omega
    subst this
    rw [List.drop_length] at hI
    have hI' : altB none p = true := hI
    simp
    refine r_Flat_ok hp ?_
    by_cases c : (flatB p).length ≤ 1024
    · have c' : ((flatB p).length : Int) ≤ 1024 := by omega
      simp [c']
      refine r_single_ok (by omega) ?_
      simp [mayB, hI', c]
      exact .rfl'
    · have c' : ¬ ((flatB p).length : Int) ≤ 1024 := by omega
      simp [c']
      simp [mayB, c]
      exact .rfl'
end Go.Gh
namespace Go.Gh
open Go.RowKit Go.Proofs
set_option linter.unusedVariables false
set_option linter.unusedSimpArgs false
set_option maxRecDepth 100000
theorem p_each_ok {p : List Blk} {σ : GS} {Post : DV → GS → Prop} (k : Post (.func F_prefix_each_1 [] [.fptr [fblks p]]) σ) : GCall Try.prog F_prefix_each [fblks p] σ Post := by
  refine GCall.pure (r := .func F_prefix_each_1 [] [.fptr [fblks p]]) ?_ (by have := closed_fblks p; simp [DV.closed, closeds] at this ⊢; exact this) k
  refine gc_prefix_each ?_
  simp [G_prefix_each, genv0, List.replicate]
  exact .func .nil (.cons (.ptr (id := σ.length) (off := 0) (ro := false) (cs := [fblks p]) (.inl (Nat.le_refl _)) (by simp) (.cons (.same _) .nil)) .nil)
theorem p_each1_ok {p : List Blk} {L : Nat} {σ : GS} {Post : DV → GS → Prop} (hp : lensB p < 2 ^ 40) (I : Nat → GS → Prop) (J : GS → Prop) (hI : ∀ n σ' o, I n σ' → I n (σ' ++ [o])) (h0 : I 0 σ)
    (hr : ∀ n i v σ', (prs 0 p)[n]? = some (i, v) → I n σ' → GRound Try.prog L [.int .i64 (i : Nat), .int .i64 v] σ' fun r σ'' => (r = .bool true ∧ I (n + 1) σ'') ∨ (r = .bool false ∧ J σ''))
    (k : ∀ σ', I (flatB p).length σ' → Post (.tuple []) σ') (kj : ∀ σ', J σ' → Post (.tuple []) σ') : GCall Try.prog F_prefix_each_1 [.yield L, .fptr [fblks p]] σ Post := by
  have hlb := lensB_flat p
  refine gc_prefix_each_1 ?_
  simp [G_prefix_each_1, genv0, List.replicate]
  refine gfor p.length (fun i e σ' => I (flatB (p.take i)).length σ' ∧ e = mkEnv 28 [(0, .yield L), (7, fblks p), (8, .int .i64 p.length), (9, .int .i64 i)]) _ ?_ ⟨by simpa using h0, rfl⟩ ?_
  · simp [mkEnv, List.replicate]
  rintro i _ σ1 hi ⟨hI1, rfl⟩
  simp [mkEnv, List.replicate]
  by_cases hlt : i < p.length
  rotate_left
  · have : i = p.length := by omega
    subst this
    rw [List.take_length] at hI1
    simp
    exact k _ hI1
  obtain ⟨b, hb⟩ := nth_lt hlt
  have hb' := nth_get hb
  have hbm := lensB_mem (List.mem_of_getElem? hb')
  have es : IntKind.i64.wrap ((i : Int) + 1) = (i : Int) + 1 := by rw [wrap_small] <;> omega
  simp [hlt, hb]
  refine gfor b.2.length (fun j e σ' => I ((flatB (p.take i)).length + j) σ' ∧ e = mkEnv 28 [(0, .yield L), (3, .int .i64 i), (7, fblks p), (8, .int .i64 p.length), (9, .int .i64 i), (15, fints b.2), (16, .int .i64 b.2.length), (17, .int .i64 j)]) _ ?_ ⟨hI _ _ _ hI1, rfl⟩ ?_
  · simp [mkEnv, List.replicate]
  rintro j _ σ2 hj ⟨hI2, rfl⟩
  simp [mkEnv, List.replicate]
  by_cases hjl : j < b.2.length
  · obtain ⟨v, hv⟩ := nth_lt hjl
    have hv' := nth_get hv
    have es2 : IntKind.i64.wrap ((j : Int) + 1) = (j : Int) + 1 := by rw [wrap_small] <;> omega
    simp [hjl, hv]
    refine (hr _ i v σ2 (prs_at hb' hv') hI2).mono ?_
    rintro r σ3 (⟨rfl, h3⟩ | ⟨rfl, h3⟩)
    · simp [es2]
      exact forK_go _ hjl (by simp [mkEnv, List.replicate]) ⟨by rw [← Nat.add_assoc]; exact h3, rfl⟩
    · simp
      exact kj _ h3
  · have : j = b.2.length := by omega
    subst this
    simp [es]
    refine forK_go _ hlt (by simp [mkEnv, List.replicate]) ⟨?_, rfl⟩
    rw [flatB_take hb', List.length_append]; exact hI2
theorem grange_ret {id : Nat} {env e0 : Env} {ps : List Tmp} {a b : Code} {Q : Exit → Env → GS → Prop} {σ : GS} (h : σ[id]? = some (.loop ⟨e0, ps, a, b, .done, some .ret⟩)) (k : Q .ret env (σ.set id (.loop ⟨e0, ps, a, b, .exhausted, some .ret⟩))) : grange id env Q σ := ⟨_, h, by simp, k⟩
theorem roundK_ret {id : Nat} {Post : Bx (DV → GS → Prop)} {env e0 : Env} {ps : List Tmp} {a b : Code} {σ : GS} (h : σ[id]? = some (.loop ⟨e0, ps, a, b, .busy, none⟩)) (k : Post.val (.bool false) (σ.set id (.loop ⟨e0, ps, a, b, .done, some .ret⟩))) : @roundK id Post .ret env σ := ⟨_, h, k⟩
end Go.Gh
namespace Go.Gh
open Go.RowKit Go.Proofs
set_option linter.unusedVariables false
set_option linter.unusedSimpArgs false
set_option maxRecDepth 100000
theorem count_round {σ : GS} {env : Env} {M : GObj} {τ : GS} {i : Nat} {v : Int} {E : List (Int × DV)} {Post : DV → GS → Prop}
    (hlen : env.length = 27) (h2 : env[2]? = some (.ptr σ.length 0)) (h3 : env[3]? = some (.ptr (σ.length + 1) 0)) (h4 : env[4]? = some (.ptr (σ.length + 3) 0))
    (hM : ∀ τ, MpO kint (σ ++ (.row false [.int .i64 0] :: .row false [.bool false] :: M :: τ)) (σ.length + 2) E) (hE : ∀ k u, kget k E = some u → u = .bool true)
    (k1 : isVar v = true → kget v E = none → ∀ M' τ', (∀ τ, MpO kint (σ ++ (.row false [.int .i64 0] :: .row false [.bool false] :: M' :: τ)) (σ.length + 2) (kset v (.bool true) E)) → Post (.bool true) (σ ++ (.row false [.int .i64 0] :: .row false [.bool false] :: M' :: .row false [.map (σ.length + 2)] :: .loop (lgR env [10, 11] (rngA Try.f33 0) (rngB Try.f33 0)) :: τ')))
    (k0 : (isVar v = true → (kget v E).isSome = true) → ∀ τ', Post (.bool false) (σ ++ (.row false [.int .i64 0] :: .row false [.bool false] :: M :: .row false [.map (σ.length + 2)] :: .loop ⟨env, [10, 11], rngA Try.f33 0, rngB Try.f33 0, .done, some .ret⟩ :: τ'))) :
    GRound Try.prog (σ.length + 4) [.int .i64 i, .int .i64 v] (σ ++ (.row false [.int .i64 0] :: .row false [.bool false] :: M :: .row false [.map (σ.length + 2)] :: .loop (lgR env [10, 11] (rngA Try.f33 0) (rngB Try.f33 0)) :: τ)) Post := by
  refine round_of (env := env) (ps := [10, 11]) (a := rngA Try.f33 0) (b := rngB Try.f33 0) seatfollows (by simp) ca_prefix_count_0 cb_prefix_count_0 rfl ?_
  have h2' : ∀ h, env[2]'h = .ptr σ.length 0 := fun h => by rw [List.getElem?_eq_getElem h] at h2; exact Option.some.inj h2
  have h3' : ∀ h, env[3]'h = .ptr (σ.length + 1) 0 := fun h => by rw [List.getElem?_eq_getElem h] at h3; exact Option.some.inj h3
  have h4' : ∀ h, env[4]'h = .ptr (σ.length + 3) 0 := fun h => by rw [List.getElem?_eq_getElem h] at h4; exact Option.some.inj h4
  have hlk : ∀ τ, gload (.lookup (.int .i64) (.bool false) false) [.map (σ.length + 2), .int .i64 v] (σ ++ (.row false [.int .i64 0] :: .row false [.bool false] :: M :: τ)) = some (.bool (kget v E).isSome) := fun τ => by
    rw [(hM τ).lookup (kt := .int .i64) v (.bool false) false]
    cases hk : kget v E with
    | none => rfl
    | some u => rw [hE _ _ hk]; rfl
  simp [GA_prefix_count_0, GB_prefix_count_0, putAll, List.getElem?_set, hlen, h2', h3', h4', lgR]
  by_cases c1 : 1 ≤ v
  rotate_left
  · have c1' : v < 1 := by omega
    simp [c1', List.getElem?_set, hlen, h2', h3', h4']
    refine roundK_ret (e0 := env) (ps := [10, 11]) (a := rngA Try.f33 0) (b := rngB Try.f33 0) (by simp) ?_
    rw [set_tail]
    exact k0 (fun h => by simp [isVar, c1] at h) _
  have c1' : ¬ v < 1 := by omega
  by_cases c2 : v ≤ 65536
  rotate_left
  · have c2' : 65536 < v := by omega
    simp [c1', c2', List.getElem?_set, hlen, h2', h3', h4']
    refine roundK_ret (e0 := env) (ps := [10, 11]) (a := rngA Try.f33 0) (b := rngB Try.f33 0) (by simp) ?_
    rw [set_tail]
    exact k0 (fun h => by simp [isVar, c2] at h) _
  have c2' : ¬ 65536 < v := by omega
  simp [c1', c2', List.getElem?_set, hlen, h2', h3', h4', hlk]
  cases hk : kget v E with
  | some u =>
    simp [List.getElem?_set, hlen, h2', h3', h4']
    refine roundK_ret (e0 := env) (ps := [10, 11]) (a := rngA Try.f33 0) (b := rngB Try.f33 0) (by simp) ?_
    rw [set_tail]
    exact k0 (fun _ => by simp [hk]) _
  | none =>
    obtain ⟨o, q1, q2⟩ := (hM (.row false [.map (σ.length + 2)] :: .loop ⟨env, [10, 11], rngA Try.f33 0, rngB Try.f33 0, .busy, none⟩ :: τ)).set (kt := .int .i64) v (.bool true)
    rw [set_tail] at q1 q2
    simp [List.getElem?_set, hlen, h2', h3', h4', q1]
    refine roundK_normal (e0 := env) (ps := [10, 11]) (a := rngA Try.f33 0) (b := rngB Try.f33 0) (by simp) ?_
    rw [set_tail]
    exact k1 (by simp [isVar, c1, c2]) hk _ _ fun τ1 => q2.fit (by simp)
/-- A set of numbers as a map to true. -/
def setE (l : List Int) : List (Int × DV) := l.map fun v => (v, .bool true)
theorem setE_keys (l : List Int) : (setE l).map (·.1) = l := by simp [setE, Function.comp_def]
theorem setE_true {l : List Int} (k : Int) (u : DV) (h : kget k (setE l) = some u) : u = .bool true := by
  obtain ⟨v, _, he⟩ := List.mem_map.1 (kget_mem h)
  cases he; rfl
theorem setE_some {l : List Int} {k : Int} : (kget k (setE l)).isSome = l.contains k := by
  cases h : kget k (setE l) with
  | none =>
    have := kget_none.1 h
    rw [setE_keys] at this
    simp [this]
  | some u =>
    have : k ∈ (setE l).map (·.1) := List.mem_map.2 ⟨_, kget_mem h, rfl⟩
    rw [setE_keys] at this
    simp [this]
theorem setE_push {l : List Int} {v : Int} (h : kget v (setE l) = none) : kset v (.bool true) (setE l) = setE (l ++ [v]) := by
  rw [kset_new (kget_none.1 h)]; simp [setE]
theorem count_walk {p : List Blk} {σ : GS} {env : Env} (hp : lensB p < 2 ^ 40) (hlen : env.length = 27) (h2 : env[2]? = some (.ptr σ.length 0)) (h3 : env[3]? = some (.ptr (σ.length + 1) 0)) (h4 : env[4]? = some (.ptr (σ.length + 3) 0)) {Q : Exit → Env → GS → Prop}
    (kN : singleS [] (flatB p) = true → ∀ M o τ, (∀ τ, MpO kint (σ ++ (.row false [.int .i64 0] :: .row false [.bool false] :: M :: τ)) (σ.length + 2) (setE (flatB p))) → Q .normal env (σ ++ (.row false [.int .i64 0] :: .row false [.bool false] :: M :: .row false [.map (σ.length + 2)] :: o :: τ)))
    (kR : singleS [] (flatB p) = false → ∀ M o τ, Q .ret env (σ ++ (.row false [.int .i64 0] :: .row false [.bool false] :: M :: .row false [.map (σ.length + 2)] :: o :: τ))) :
    GCall Try.prog F_prefix_each_1 [.yield (σ.length + 4), .fptr [fblks p]] (σ ++ [.row false [.int .i64 0], .row false [.bool false], .mp [] ([], 0), .row false [.map (σ.length + 2)], .loop (lgR env [10, 11] (rngA Try.f33 0) (rngB Try.f33 0))]) fun _ σ' => grange (σ.length + 4) env Q σ' := by
  refine p_each1_ok hp (fun n σ' => singleS [] (flatB p) = singleS ((flatB p).take n) ((flatB p).drop n) ∧ ∃ M τ, σ' = σ ++ (.row false [.int .i64 0] :: .row false [.bool false] :: M :: .row false [.map (σ.length + 2)] :: .loop (lgR env [10, 11] (rngA Try.f33 0) (rngB Try.f33 0)) :: τ) ∧ ∀ τ, MpO kint (σ ++ (.row false [.int .i64 0] :: .row false [.bool false] :: M :: τ)) (σ.length + 2) (setE ((flatB p).take n)))
    (fun σ' => singleS [] (flatB p) = false ∧ ∃ M τ, σ' = σ ++ (.row false [.int .i64 0] :: .row false [.bool false] :: M :: .row false [.map (σ.length + 2)] :: .loop ⟨env, [10, 11], rngA Try.f33 0, rngB Try.f33 0, .done, some .ret⟩ :: τ)) ?_ ?_ ?_ ?_ ?_
  · rintro n _ o ⟨h, M, τ, rfl, hM⟩
    exact ⟨h, M, τ ++ [o], by simp, hM⟩
  · refine ⟨by simp, _, [], rfl, fun τ => ?_⟩
    exact ⟨by simp [setE], ([], 0), ⟨by simp [setE], by simp, by simp⟩, by simp [kenc, setE]⟩
  · rintro n i v _ hn ⟨h, M, τ, rfl, hM⟩
    have hv : (flatB p)[n]? = some v := by
      have := congrArg (fun o => o.map (·.2)) hn
      simpa [← List.getElem?_map, prs_snd] using this
    rw [drop_get hv, singleS] at h
    refine count_round hlen h2 h3 h4 hM (fun k u => setE_true k u) (fun c1 c2 M' τ' hM' => .inl ⟨rfl, ?_, M', τ', rfl, ?_⟩) fun c τ' => .inr ⟨rfl, ?_, M, τ', rfl⟩
    · have : ((flatB p).take n).contains v = false := by rw [← setE_some, c2]; rfl
      rw [h, c1, this, take_get hv]; simp
    · rw [setE_push c2, ← take_get hv] at hM'; exact hM'
    · rw [h]
      cases hc : isVar v with
      | false => rfl
      | true =>
        have := c hc
        rw [setE_some] at this
        rw [this]; rfl
  · rintro _ ⟨h, M, τ, rfl, hM⟩
    rw [List.take_length] at hM
    rw [List.drop_length, singleS] at h
    refine grange_normal (e0 := env) (ps := [10, 11]) (a := rngA Try.f33 0) (b := rngB Try.f33 0) (by simp) ?_
    rw [set_tail]
    exact kN h _ _ _ hM
  · rintro _ ⟨h, M, τ, rfl⟩
    refine grange_ret (e0 := env) (ps := [10, 11]) (a := rngA Try.f33 0) (b := rngB Try.f33 0) (by simp) ?_
    rw [set_tail]
    exact kR h _ _ _
theorem p_count_ok {p : List Blk} {σ : GS} {Post : DV → GS → Prop} (hp : lensB p < 2 ^ 40) (h : Post (.tuple [.int .i64 (if singleS [] (flatB p) = true then (flatB p).length else 0), .bool (singleS [] (flatB p))]) σ) : GCall Try.prog F_prefix_count [fblks p] σ Post := by
  refine GCall.say (r := .tuple [.int .i64 (if singleS [] (flatB p) = true then (flatB p).length else 0), .bool (singleS [] (flatB p))]) ?_ (by simp) h
  refine gc_prefix_count ?_
  simp [G_prefix_count, genv0, List.replicate]
  refine p_each_ok ?_
  simp
  refine rangeB_intro ?_
  simp
  refine count_walk hp (by simp) (by simp) (by simp) (by simp) (fun hs M o τ hM => ?_) (fun hs M o τ => ?_)
  · have hml : gload .mlen [.map (σ.length + 2)] (σ ++ (.row false [.int .i64 0] :: .row false [.bool false] :: M :: .row false [.map (σ.length + 2)] :: o :: τ)) = some (.int .i64 (flatB p).length) := by
      rw [(hM _).mlen]; simp [setE]
    simp [hml, hs]
  · simp [hs]
end Go.Gh
namespace Go.Gh
open Go.RowKit Go.Proofs
set_option linter.unusedVariables false
set_option linter.unusedSimpArgs false
set_option maxRecDepth 100000
theorem p_May_ok {p : List Blk} {σ : GS} {Post : DV → GS → Prop} (hp : lensB p < 2 ^ 40) (h : Post (.bool (mayB p)) σ) : GCall Try.prog F_prefix_May [fblks p] σ Post := by
  have hlb := lensB_flat p
  refine GCall.say (r := .bool (mayB p)) ?_ rfl h
  refine gc_prefix_May ?_
  simp [G_prefix_May, genv0, List.replicate]
  refine gfor p.length (fun i e σ' => Fr σ.length σ σ' ∧ altB none p = altB (prevB p i) (p.drop i) ∧ e = mkEnv 44 [(0, fblks p), (7, fblks p), (8, .int .i64 p.length), (9, .int .i64 i)]) _ ?_ ⟨.rfl', by simp [prevB], rfl⟩ ?_
  · simp [mkEnv, List.replicate]
  rintro i _ σ1 hi ⟨hF, hI, rfl⟩
  simp [mkEnv, List.replicate]
  by_cases hlt : i < p.length
  · obtain ⟨b, hb⟩ := nth_lt hlt
    have hb' := nth_get hb
    rw [drop_get hb', altB_step] at hI
    have es : IntKind.i64.wrap ((i : Int) + 1) = (i : Int) + 1 := by rw [wrap_small] <;> omega
    by_cases h0 : b.2.length = 0
    · have h0' : b.2 = [] := List.length_eq_zero_iff.1 h0
      simp [hlt, hb, h0']
      simp [mayB, hI, h0']
      exact hF.app _
    have h0' : ¬ (b.2 = []) := fun e => h0 (by rw [e]; rfl)
    have h0'' : ¬ ((b.2.length : Int) = 0) := by omega
    cases i with
    | zero =>
      simp [hlt, hb, h0', h0'']
      exact forK_go _ hlt (by simp [mkEnv, List.replicate]) ⟨hF.app _, by simp [hI, prevB, hb', h0'], rfl⟩
    | succ i =>
      obtain ⟨c, hc⟩ := nth_lt (l := p) (i := i) (by omega)
      have hc' := nth_get hc
      have ew' : IntKind.i64.wrap (i : Int) = i := by rw [wrap_small] <;> omega
      have hge : (0 : Int) ≤ (i : Int) + 1 := by omega
      have hgt : (0 : Int) < (i : Int) + 1 := by omega
      have htn : ((i : Int) + 1).toNat = i + 1 := by omega
      have es2 : IntKind.i64.wrap ((i : Int) + 1 + 1) = (i : Int) + 1 + 1 := by rw [wrap_small] <;> omega
      by_cases he : c.1 = b.1
      · simp [hlt, hb, h0', h0'', hge, hgt, htn, ew', hc, he]
        simp [mayB, hI, prevB, hc', he]
        exact hF.app _
      · have he2 : (c.1 == b.1) = false := by simpa using he
        simp [hlt, hb, h0', h0'', hge, hgt, htn, ew', hc, he2, es2]
        exact forK_go _ hlt (by simp [mkEnv, List.replicate]) ⟨hF.app _, by simp [hI, prevB, hc', he, h0', hb'], rfl⟩
  · have : i = p.length := by omega
    subst this
    rw [List.drop_length] at hI
    have hI' : altB none p = true := hI
    simp
    refine p_count_ok hp ?_
    cases hs : singleS [] (flatB p) with
    | false =>
      simp
      simp [mayB, hs]
      exact hF
    | true =>
      by_cases c : (flatB p).length ≤ 1024
      · have c' : ((flatB p).length : Int) ≤ 1024 := by omega
        simp [c']
        simp [mayB, hI', c, hs]
        exact hF
      · have c' : ¬ ((flatB p).length : Int) ≤ 1024 := by omega
        simp [c']
        simp [mayB, c]
        exact hF
theorem p_Index_ok {a : List Int} {x : Int} {σ : GS} {Post : DV → GS → Prop} (hl : a.length < 2 ^ 60) (h : Post (.int .i64 (idxF (fun y => decide (y = x)) 0 a)) σ) : GCall Try.prog F_slices_Index_int_int [fints a, .int .i64 x] σ Post := by
  refine gc_slices_Index_int_int ?_
  simp [G_slices_Index_int_int, genv0, List.replicate]
  refine gfor a.length (fun i e σ' => σ' = σ ∧ idxF (fun y => decide (y = x)) 0 a = idxF (fun y => decide (y = x)) i (a.drop i) ∧ e = mkEnv 19 [(0, fints a), (1, .int .i64 x), (7, .int .i64 a.length), (8, .int .i64 i)]) _ ?_ ⟨rfl, by simp, rfl⟩ ?_
  · simp [mkEnv, List.replicate]
  rintro i _ _ hi ⟨rfl, hI, rfl⟩
  simp [mkEnv, List.replicate]
  by_cases hlt : i < a.length
  · obtain ⟨y, hy⟩ := nth_lt hlt
    rw [drop_get hy] at hI
    have es : IntKind.i64.wrap ((i : Int) + 1) = (i : Int) + 1 := by rw [wrap_small] <;> omega
    by_cases c : x = y
    · simp [hlt, hy, c]
      rw [hI] at h; simpa [idxF, c] using h
    · have c' : ¬ y = x := fun e => c e.symm
      simp [hlt, hy, c, es]
      exact forK_go _ hlt (by simp [mkEnv, List.replicate]) ⟨rfl, by rw [hI]; simp [idxF, c'], rfl⟩
  · have : i = a.length := by omega
    subst this
    simp
    rw [hI] at h; simpa [idxF] using h
theorem p_Contains_ok {a : List Int} {x : Int} {σ : GS} {Post : DV → GS → Prop} (hl : a.length < 2 ^ 60) (h : Post (.bool (a.contains x)) σ) : GCall Try.prog F_slices_Contains_int_int [fints a, .int .i64 x] σ Post := by
  refine gc_slices_Contains_int_int ?_
  simp [G_slices_Contains_int_int, genv0, List.replicate]
  refine p_Index_ok hl ?_
  have e : decide (0 ≤ idxF (fun y => decide (y = x)) 0 a) = a.contains x := by
    rw [idxF_any]
    clear h hl
    induction a with
    | nil => rfl
    | cons y a ih =>
      rw [List.any_cons, ih, List.contains_cons]
      congr 1
      by_cases e : y = x
      · simp [e]
      · have : (x == y) = false := by simpa using fun h => e h.symm
        simp [e, this]
  simp
  rw [e]; exact h
theorem p_Find_ok {p : List Blk} {v : Int} {σ : GS} {Post : DV → GS → Prop} (hp : lensB p < 2 ^ 40) (h : Post (findT (findO 0 p v)) σ) : GCall Try.prog F_prefix_Find [fblks p, .int .i64 v] σ Post := by
  have hlb := lensB_flat p
  have hcl : ∀ o, (findT o).closed = true := fun o => by cases o <;> simp [findT]
  refine GCall.say (r := findT (findO 0 p v)) ?_ (hcl _) h
  refine gc_prefix_Find ?_
  simp [G_prefix_Find, genv0, List.replicate]
  refine gfor p.length (fun i e σ' => Fr σ.length σ σ' ∧ findO 0 p v = findO i (p.drop i) v ∧ e = mkEnv 24 [(1, .int .i64 v), (9, fblks p), (10, .int .i64 p.length), (11, .int .i64 i)]) _ ?_ ⟨.rfl', by simp, rfl⟩ ?_
  · simp [mkEnv, List.replicate]
  rintro i _ σ1 hi ⟨hF, hI, rfl⟩
  simp [mkEnv, List.replicate]
  by_cases hlt : i < p.length
  · obtain ⟨b, hb⟩ := nth_lt hlt
    have hb' := nth_get hb
    have hbm := lensB_mem (List.mem_of_getElem? hb')
    rw [drop_get hb', findO] at hI
    have es : IntKind.i64.wrap ((i : Int) + 1) = (i : Int) + 1 := by rw [wrap_small] <;> omega
    simp [hlt, hb]
    refine p_Contains_ok (by omega) ?_
    by_cases c : b.2.contains v = true
    · rw [if_pos c] at hI
      rw [c, hI]
      simp [findT]
      exact hF.app _
    · have c' : b.2.contains v = false := by simpa using c
      rw [c'] at hI ⊢
      simp [es]
      exact forK_go _ hlt (by simp [mkEnv, List.replicate]) ⟨hF.app _, hI, rfl⟩
  · have : i = p.length := by omega
    subst this
    rw [List.drop_length, findO] at hI
    rw [hI]
    simp [findT]
    exact hF
end Go.Gh
namespace Go.Gh
open Go.RowKit Go.Proofs
set_option linter.unusedVariables false
set_option linter.unusedSimpArgs false
set_option maxRecDepth 100000
def CapOk (s : DV) : Prop := ∀ a b n z c, s = .slice a b n z (some c) → n ≤ c
theorem append_cap {sz by_ : Nat} {s x v : DV} {σ σ' : GS} (h : gappend sz by_ s x σ = some (v, σ')) (hs : CapOk s) : CapOk v := by
  unfold gappend at h
  repeat' (split at h)
  all_goals first | (cases h; done) | skip
  all_goals
    cases h
    first
    | exact hs
    | (intro a b n z c e; cases e; done)
    | (intro a b n z c e; cases e; assumption)
theorem clone_ok {s : DV} {xs : List Int} {n : Nat} {σ : GS} {Post : DV → GS → Prop} (hq : nilq s ≠ []) (hn : true ∈ nilq s → xs = []) (hr : ∀ τ, gread 1 s (σ ++ τ) = some (xs.flatMap eint)) (hg : glen s = xs.length) (hl : xs.length < 2 ^ 43) (hnn : n ≤ σ.length)
    (k : ∀ s' σ', Own n 1 eint σ' s' xs → Fr σ.length σ σ' → (∀ i, s'.has i → σ.length ≤ i) → CapOk s' → Post s' σ') : GCall Try.prog F_slices_Clone_int_int [s] σ Post := by
  refine gc_slices_Clone_int_int ?_
  simp [G_slices_Clone_int_int, genv0, List.replicate]
  refine eqn_any hq fun b hb => ?_
  cases b with
  | true =>
    have := hn hb
    subst this
    simp
    exact k .nils σ .nil (.refl (Nat.le_refl _)) (fun i ⟨_, _, _, _, e⟩ => by cases e) (fun _ _ _ _ _ e => by cases e)
  | false =>
    have h0 : Own σ.length 1 eint (σ ++ [.row false (gzeros [.int .i64 0] 0)]) (.slice σ.length 0 0 1 (some 0)) ([] : List Int) := .inr ⟨σ.length, some 0, [], Nat.le_refl _, by simp, by simp [gzeros], fun c hc => by cases hc; simp⟩
    obtain ⟨s', σ', q1, q2, q3, q4, q5, q6, _⟩ := h0.append (by_ := 8) (ys := xs) (x := s) (fun _ => rfl) (hr _) hg (fun y _ => by simp) (by simp) (by simp; omega) (by decide)
    simp [q1]
    refine k s' σ' (by simpa using q2.weaken hnn) (((Fr.refl (Nat.le_refl _)).app _).trans q3) (fun i hi => ?_) (append_cap (sz := 1) (by_ := 8) (s := .slice σ.length 0 0 1 (some 0)) q1 (fun _ _ _ _ _ e => by cases e; exact Nat.le_refl _))
    exact q2.has_ge hi
theorem clone_frz {xs : List Int} {n : Nat} {σ : GS} {Post : DV → GS → Prop} (hl : xs.length < 2 ^ 43) (hnn : n ≤ σ.length)
    (k : ∀ s' σ', Own n 1 eint σ' s' xs → Fr σ.length σ σ' → (∀ i, s'.has i → σ.length ≤ i) → CapOk s' → Post s' σ') : GCall Try.prog F_slices_Clone_int_int [fints xs] σ Post := by
  refine clone_ok ?_ ?_ (fun τ => ?_) (by simp [glen]) hl hnn k
  · simp only [nilq]; split <;> simp
  · simp only [nilq, List.length_map]; intro h; split at h
    · simp at h
    · exact List.length_eq_zero_iff.1 (by omega)
  · simp [gread, flatMap_flatten]
end Go.Gh
namespace Go.Gh
open Go.RowKit Go.Proofs
set_option linter.unusedVariables false
set_option linter.unusedSimpArgs false
set_option maxRecDepth 100000
end Go.Gh
namespace Go.Gh
open Go.RowKit Go.Proofs
set_option linter.unusedVariables false
set_option linter.unusedSimpArgs false
set_option maxRecDepth 100000
end Go.Gh
namespace Go.Gh
open Go.RowKit Go.Proofs
set_option linter.unusedVariables false
set_option linter.unusedSimpArgs false
set_option maxRecDepth 100000
end Go.Gh
namespace Go.Gh
open Go.RowKit Go.Sort Go.Shelf Go.Proofs
set_option linter.unusedVariables false
set_option linter.unusedSimpArgs false
abbrev F_Sort : FuncId := 44
def sort_ren : Go.Shelf.Ren := ⟨fun | 189 => 44 | 125 => 70 | 257 => 69 | 128 => 92 | 129 => 93 | 294 => 83 | 295 => 84 | 296 => 85 | 297 => 86 | 298 => 87 | 299 => 88 | 216 => 89 | 300 => 90 | 301 => 91 | 328 => 99 | 329 => 100 | 330 => 101 | 331 => 102 | 332 => 103 | 215 => 80 | 343 => 106 | n => n, fun | 28 => 23 | 3 => 3 | 46 => 105 | 0 => 0 | 51 => 121 | 53 => 123 | 4 => 4 | 183 => 115 | 182 => 114 | 131 => 68 | 5 => 5 | 9 => 9 | 218 => 127 | 222 => 131 | 228 => 134 | 229 => 135 | n => n, fun | n => n⟩
theorem sort_lays : Go.Proofs.Lays.n189 Try.prog sort_ren := {
  mixed := by kernel_rfl
  f125 := Try.func70.trans (congrArg some (by kernel_rfl))
  f128 := Try.func92.trans (congrArg some (by kernel_rfl))
  f129 := Try.func93.trans (congrArg some (by kernel_rfl))
  f189 := Try.func44.trans (congrArg some (by kernel_rfl))
  f215 := Try.func80.trans (congrArg some (by kernel_rfl))
  f216 := Try.func89.trans (congrArg some (by kernel_rfl))
  f257 := Try.func69.trans (congrArg some (by kernel_rfl))
  f294 := Try.func83.trans (congrArg some (by kernel_rfl))
  f295 := Try.func84.trans (congrArg some (by kernel_rfl))
  f296 := Try.func85.trans (congrArg some (by kernel_rfl))
  f297 := Try.func86.trans (congrArg some (by kernel_rfl))
  f298 := Try.func87.trans (congrArg some (by kernel_rfl))
  f299 := Try.func88.trans (congrArg some (by kernel_rfl))
  f300 := Try.func90.trans (congrArg some (by kernel_rfl))
  f301 := Try.func91.trans (congrArg some (by kernel_rfl))
  f328 := Try.func99.trans (congrArg some (by kernel_rfl))
  f329 := Try.func100.trans (congrArg some (by kernel_rfl))
  f330 := Try.func101.trans (congrArg some (by kernel_rfl))
  f331 := Try.func102.trans (congrArg some (by kernel_rfl))
  f332 := Try.func103.trans (congrArg some (by kernel_rfl))
  f343 := Try.func106.trans (congrArg some (by kernel_rfl))
  t0 := Try.underlying0
  a0 := Try.isAgg0
  z0 := Try.sizeOf0
  v0 := Try.zeroValue0
  t3 := Try.underlying3
  a3 := Try.isAgg3
  z3 := Try.sizeOf3
  v3 := Try.zeroValue3
  t4 := Try.underlying4
  a4 := Try.isAgg4
  z4 := Try.sizeOf4
  v4 := Try.zeroValue4
  t5 := Try.underlying5
  a5 := Try.isAgg5
  z5 := Try.sizeOf5
  v5 := Try.zeroValue5
  t9 := Try.underlying9
  a9 := Try.isAgg9
  z9 := Try.sizeOf9
  v9 := Try.zeroValue9
  t28 := Try.underlying23
  a28 := Try.isAgg23
  z28 := Try.sizeOf23
  v28 := Try.zeroValue23
  t46 := Try.underlying105
  a46 := Try.isAgg105
  z46 := Try.sizeOf105
  v46 := Try.zeroValue105
  t51 := Try.underlying121
  a51 := Try.isAgg121
  z51 := Try.sizeOf121
  v51 := Try.zeroValue121
  t53 := Try.underlying123
  a53 := Try.isAgg123
  z53 := Try.sizeOf123
  v53 := Try.zeroValue123
  t131 := Try.underlying68
  a131 := Try.isAgg68
  z131 := Try.sizeOf68
  v131 := Try.zeroValue68
  t182 := Try.underlying114
  a182 := Try.isAgg114
  z182 := Try.sizeOf114
  v182 := Try.zeroValue114
  t183 := Try.underlying115
  a183 := Try.isAgg115
  z183 := Try.sizeOf115
  v183 := Try.zeroValue115
  t218 := Try.underlying127
  a218 := Try.isAgg127
  z218 := Try.sizeOf127
  v218 := Try.zeroValue127
  t222 := Try.underlying131
  a222 := Try.isAgg131
  z222 := Try.sizeOf131
  v222 := Try.zeroValue131
  t228 := Try.underlying134
  a228 := Try.isAgg134
  z228 := Try.sizeOf134
  v228 := Try.zeroValue134
  t229 := Try.underlying135
  a229 := Try.isAgg135
  z229 := Try.sizeOf135
  v229 := Try.zeroValue135 }
theorem sortC : SortC Try.prog F_Sort :=
  ⟨fun blk off cap zs w h1 h2 h3 => Any.slices_Sort_int sort_lays blk off cap zs w h1 h2 h3, fun p cap w => Any.slices_Sort_int_none sort_lays p cap w⟩
theorem sortX : ∃ fn, Try.prog.funcs[F_Sort]? = some fn ∧ (fn.name == "runtime.NumGoroutine") = false ∧ fn.body.isSome = true :=
  ⟨Try.f44, Try.func44, by decide, rfl⟩
end Go.Gh
namespace Go.Gh
open Go.RowKit Go.Proofs
set_option linter.unusedVariables false
set_option linter.unusedSimpArgs false
set_option maxRecDepth 100000
def sortZ (l : List Int) : List Int := l.mergeSort fun x y => decide (x ≤ y)
/-- The numbers of a quantifier in blocks. -/
def qB (p : List Blk) (ex : Bool) : List Int := flatB (p.filter fun b => b.1 == ex)
theorem qB_le (p : List Blk) (ex : Bool) : (qB p ex).length ≤ (flatB p).length := by
  unfold qB
  induction p with
  | nil => simp
  | cons b p ih =>
    rw [List.filter_cons]
    split <;> simp <;> omega
theorem qB_push {p : List Blk} {i : Nat} {b : Blk} {ex : Bool} (h : p[i]? = some b) : qB (p.take (i + 1)) ex = qB (p.take i) ex ++ if b.1 == ex then b.2 else [] := by
  unfold qB
  rw [take_get h, List.filter_append, flatB_append]
  congr 1
  rw [List.filter_cons]
  split <;> simp
theorem p_before_ok {p : List Blk} {ex : Bool} {σ : GS} {Post : DV → GS → Prop} (hp : lensB p < 2 ^ 40) (h : Post (fints (sortZ (qB p ex))) σ) : GCall Try.prog F_prefix_before [fblks p, .bool ex] σ Post := by
  have hlb := lensB_flat p
  refine GCall.pure (r := fints (sortZ (qB p ex))) ?_ (by simp) h
  refine gc_prefix_before ?_
  simp [G_prefix_before, genv0, List.replicate]
  refine gfor p.length (fun i e σ' => Fr σ.length σ σ' ∧ ∃ s, Own σ.length 1 eint σ' s (qB (p.take i) ex) ∧ e = mkEnv 25 [(1, .bool ex), (4, s), (7, fblks p), (8, .int .i64 p.length), (9, .int .i64 i)]) _ ?_ ⟨.rfl', .nils, by simpa [qB] using Own.nil, rfl⟩ ?_
  · simp [mkEnv, List.replicate]
  rintro i _ σ1 hi ⟨hF, s, hO, rfl⟩
  simp [mkEnv, List.replicate]
  by_cases hlt : i < p.length
  · obtain ⟨b, hb⟩ := nth_lt hlt
    have hb' := nth_get hb
    have hpush := qB_push (ex := ex) hb'
    have es : IntKind.i64.wrap ((i : Int) + 1) = (i : Int) + 1 := by rw [wrap_small] <;> omega
    have hle1 : (qB (p.take (i + 1)) ex).length ≤ (flatB p).length := by
      refine Nat.le_trans (qB_le _ _) ?_
      have : flatB p = flatB (p.take (i + 1)) ++ flatB (p.drop (i + 1)) := by rw [← flatB_append, List.take_append_drop]
      rw [this]; simp
    by_cases c : b.1 = ex
    · have c2 : (b.1 == ex) = true := by simpa using c
      have hge := hF.len
      rw [c2, if_pos rfl] at hpush
      rw [hpush, List.length_append] at hle1
      obtain ⟨s', σ2, q1, q2, q3, q4, q5, q6, q7⟩ := (hO.fr (Fr.rfl'.app [.row false (eblk b)])).append (by_ := 8) (x := fints b.2) (ys := b.2) (fun _ => rfl) (by simpa [flatMap_flatten] using gread_fsl (σ := σ1 ++ [.row false (eblk b)]) (sz := 1) (es := b.2.map eint)) (by simp [glen]) (by simp) (by simp; omega) (by omega) (by decide)
      simp [hlt, hb, c2, q1, es]
      refine forK_go _ hlt (by simp [mkEnv, List.replicate]) ⟨(hF.app _).trans q3, s', by rw [hpush]; exact q2, rfl⟩
    · have c2 : (b.1 == ex) = false := by simpa using c
      rw [c2, if_neg (by simp), List.append_nil] at hpush
      simp [hlt, hb, c2, es]
      exact forK_go _ hlt (by simp [mkEnv, List.replicate]) ⟨hF.app _, s, by rw [hpush]; exact hO.fr (Fr.rfl'.app _), rfl⟩
  · have : i = p.length := by omega
    subst this
    rw [List.take_length] at hO
    have hql := qB_le p ex
    simp
    refine (Own.sort (f := F_Sort) sortC sortX (n := σ.length) hO (by omega) hF.len).mono ?_
    rintro v σ2 ⟨rfl, hO2, hF2, _, _⟩
    simp
    exact ⟨hF.trans hF2, hO2.rd (fun _ => rfl) fun i hi => .inl hi⟩
/-- What On returns. -/
def onP (p : List Blk) (v : Int) : List Int × Int := if mayB p = true then (match findO 0 p v with
  | some (k, e) => (sortZ (qB (p.take k) !e), 0)
  | none => ([], 6)) else ([], 2)
theorem lensB_take (p : List Blk) (k : Nat) : lensB (p.take k) ≤ lensB p := by
  have : lensB p = lensB (p.take k) + lensB (p.drop k) := by rw [← lensB_append, List.take_append_drop]
  omega
theorem p_On_ok {p : List Blk} {v : Int} {σ : GS} {Post : DV → GS → Prop} (hp : lensB p < 2 ^ 40) (h : Post (.tuple [fints (onP p v).1, .int .i64 (onP p v).2]) σ) : GCall Try.prog F_prefix_On [fblks p, .int .i64 v] σ Post := by
  refine GCall.pure (r := .tuple [fints (onP p v).1, .int .i64 (onP p v).2]) ?_ (by simp) h
  refine gc_prefix_On ?_
  simp [G_prefix_On, genv0, List.replicate]
  refine p_May_ok hp ?_
  cases hm : mayB p with
  | false =>
    simp [onP, hm]
    exact ⟨.rfl', .tuple (.cons (.nils 1) (.cons (.same _) .nil))⟩
  | true =>
    simp
    refine p_Find_ok hp ?_
    cases hf : findO 0 p v with
    | none =>
      simp [onP, hm, hf, findT]
      exact ⟨.rfl', .tuple (.cons (.nils 1) (.cons (.same _) .nil))⟩
    | some y =>
      obtain ⟨k, e⟩ := y
      obtain ⟨b, _, hb, _, _⟩ := findO_mem hf
      have hk := get_dom hb
      simp at hk
      have hsl : gpure (.slice 2 false true false) [fblks p, .int .i64 k] = some (fblks (p.take k)) := by
        simp only [gpure, gslice, if_true, gbm, Option.bind_some, gbh, gbl, gbound, List.length_map]
        rw [if_pos (by omega)]
        simp [List.map_take]
      have hlt := lensB_take p k
      simp [findT, hsl]
      refine p_before_ok (by omega) ?_
      simp [onP, hm, hf]
      exact ⟨.rfl', .same _⟩
end Go.Gh
namespace Go.Gh
open Go.RowKit Go.Proofs
set_option linter.unusedVariables false
set_option linter.unusedSimpArgs false
set_option maxRecDepth 100000
theorem bs2_agg {x y : DV} {z : List DV} (hz : z.length = 2) : galloc (.bslice 2 z 1 [(0, 2)]) [.agg [x, y]] = some (.row false [x, y], fun id => .slice id 0 1 2 (some 1)) := ga_b1_agg rfl hz
theorem p_joined_ok {p : List Blk} {σ : GS} {Post : DV → GS → Prop} (hp : lensB p < 2 ^ 40) (k : ∀ s σ', Jn σ.length σ' s (joinB p) → Fr σ.length σ σ' → Post s σ') : GCall Try.prog F_prefix_joined [fblks p] σ Post := by
  have hlb := lensB_flat p
  refine gc_prefix_joined ?_
  simp [G_prefix_joined, genv0, List.replicate]
  refine gfor p.length (fun i e σ' => Fr σ.length σ σ' ∧ ∃ s, Jn σ.length σ' s (joinB (p.take i)) ∧ e = mkEnv 56 [(2, s), (6, fblks p), (7, .int .i64 p.length), (8, .int .i64 i)]) _ ?_ ⟨.rfl', .nils, by simpa [joinB] using Jn.nil, rfl⟩ ?_
  · simp [mkEnv, List.replicate]
  rintro i _ σ1 hi ⟨hF, s, hJ, rfl⟩
  simp [mkEnv, List.replicate]
  by_cases hlt : i < p.length
  rotate_left
  · have : i = p.length := by omega
    subst this
    rw [List.take_length] at hJ
    simp
    exact k _ _ hJ hF
  obtain ⟨b, hb⟩ := nth_lt hlt
  have hb' := nth_get hb
  have hpush := joinB_push hb'
  have es : IntKind.i64.wrap ((i : Int) + 1) = (i : Int) + 1 := by rw [wrap_small] <;> omega
  have hge := hF.len
  have hbm := lensB_mem (List.mem_of_getElem? hb')
  have hjl : lensB (joinB (p.take i)) ≤ lensB p := Nat.le_trans (joinB_lens _) (lensB_take p i)
  have hjn : (joinB (p.take i)).length ≤ lensB (joinB (p.take i)) := by unfold lensB; omega
  obtain ⟨out, hout⟩ : ∃ out, joinB (p.take i) = out := ⟨_, rfl⟩
  rw [hout] at hpush hJ hjl hjn
  by_cases h0 : b.2 = []
  · have hst : joinStep out b = out := by unfold joinStep; rw [if_pos h0]
    simp [hlt, hb, hJ.glen, h0, es]
    exact forK_go _ hlt (by simp [mkEnv, List.replicate]) ⟨hF.app _, s, by rw [hpush, hst]; exact hJ.fr (Fr.rfl'.app _), rfl⟩
  have hJ1 := hJ.fr (Fr.rfl'.app [.row false (eblk b)])
  obtain ⟨raws, hR⟩ := hJ1
  -- a block more
  have hnew : ∀ (K : DV → GS → Prop), (∀ s' σ', Jn σ.length σ' s' (out ++ [b]) → Fr σ.length σ σ' → K s' σ') → ∀ t σ2, Own σ.length 1 eint σ2 t b.2 → Fr (σ1.length + 1) (σ1 ++ [.row false (eblk b)]) σ2 → (∀ k, t.has k → σ1.length + 1 ≤ k) → ∃ s' σ3, gimp (.append 2 32) [s, .slice σ2.length 0 1 2 (some 1)] (σ2 ++ [.row false [.bool b.1, t]]) = some (s', σ3) ∧ K s' σ3 := by
    intro K hK t σ2 ht hF2 hth
    have hR2 : JnR σ.length σ2 s raws out := hR.fr (by simpa using hF2)
    have hle2 := hF2.len
    have hdom : ∀ k, s.has k → k < σ1.length + 1 := fun k hk => by have := hR.own.has_lt hk; simpa using this
    obtain ⟨s', σ3, q1, q2, q3, q4⟩ := hR2.push (e := b.1) ht (fun k hk hk' => by have := hdom k hk'; have := hth k hk; omega) (fun j r hr k hk hk' => by
      have hjd := get_dom hr
      obtain ⟨c, hc⟩ := get_lt (xs := out) (i := j) (by rw [← hR.len]; exact hjd)
      have := (hR.at_ j r c hr hc).2.1.has_lt hk
      have := hth k hk'
      simp at *; omega) (by omega) (by omega)
    exact ⟨s', σ3, q1, hK _ _ ⟨_, q2⟩ ((hF.app [.row false (eblk b)]).trans ((hF2.mono (by omega)).trans q3))⟩
  cases hm : out.length with
  | zero =>
    have hon : out = [] := List.length_eq_zero_iff.1 hm
    have hst : joinStep out b = out ++ [b] := by unfold joinStep; rw [if_neg h0, hon]; rfl
    simp [hlt, hb, hJ.glen, h0, hm, show IntKind.i64.wrap (-1) = -1 by decide]
    refine clone_frz (n := σ.length) (xs := b.2) (by omega) (by simp; omega) fun t σ2 hO hF2 hhas hcap => ?_
    have hrow2 : σ2[σ1.length]? = some (.row false (eblk b)) := by rw [hF2.get _ (by simp)]; simp
    obtain ⟨s', σ3, q1, q2⟩ := hnew (fun s' σ' => Jn σ.length σ' s' (out ++ [b]) ∧ Fr σ.length σ σ') (fun s' σ' h1 h2 => ⟨h1, h2⟩) t σ2 hO (by simpa using hF2) (by simpa using hhas)
    simp [fill_flat2, hO.flat, bs2_agg, q1, es]
    refine ⟨by rw [ld_at hrow2]; rfl, ?_⟩
    exact forK_go _ hlt (by simp [mkEnv, List.replicate]) ⟨q2.2, s', by rw [hpush, hst]; exact q2.1, rfl⟩
  | succ m =>
    obtain ⟨c, hc⟩ := get_lt (xs := out) (i := m) (by omega)
    obtain ⟨r, hr, r1, r2, r3⟩ := hR.get hc
    have ew : IntKind.i64.wrap (m : Int) = m := by rw [wrap_small] <;> omega
    obtain ⟨id, g1, g2, g3, g4⟩ := hR.own.get (fun _ => rfl) hr (k := .i64)
    have g40 := g4 0 (by omega)
    have g41 := g4 1 (by omega)
    simp at g40 g41
    by_cases hq : c.1 = b.1
    · have hst : joinStep out b = out.set m (c.1, c.2 ++ b.2) := by unfold joinStep; rw [if_neg h0, hm, Nat.add_sub_cancel, hc]; simp [hq]
      have hq2 : (r.1 == b.1) = true := by rw [r1]; simpa using hq
      have hcm := lensB_mem (List.mem_of_getElem? hc)
      obtain ⟨σ2, hσ2⟩ : ∃ σ2, σ1 ++ [GObj.row false (eblk b)] = σ2 := ⟨_, rfl⟩
      have hl2 : σ2.length = σ1.length + 1 := by rw [← hσ2]; simp
      have l41 : gload (.load 1 false) [.ptr σ1.length 1] σ2 = some (fints b.2) := by rw [← hσ2]; simp
      have l40 : gload (.load 1 false) [.ptr σ1.length 0] σ2 = some (.bool b.1) := by rw [← hσ2]; simp
      rw [hσ2] at hR r2 g3 g40 g41
      obtain ⟨t, σ3, q1, q2, q3, q4, q5, q6, q7⟩ := r2.append (by_ := 8) (x := fints b.2) (ys := b.2) (fun _ => rfl) (by simpa [flatMap_flatten] using gread_fsl (σ := σ2) (sz := 1) (es := b.2.map eint)) (by simp [glen]) (by simp) (by omega) (by omega) (by decide)
      obtain ⟨id', σ4, z1, z2, z3, z4, z5⟩ := hR.grow hr hc q2 q5 q6
      rw [g2] at z1
      cases z1
      simp [hlt, hb, hJ.glen, h0, hm, ew, g2, g40, hq2, hσ2, l41, l40, g41, q1, z2, es]
      have hle3 := q3.len
      exact forK_go _ hlt (by simp [mkEnv, List.replicate]) ⟨((hF.app [GObj.row false (eblk b)]).trans (by rw [hσ2]; exact q3)).trans (z4 (by omega)), s, by rw [hpush, hst]; exact ⟨_, z3⟩, rfl⟩
    · have hst : joinStep out b = out ++ [b] := by unfold joinStep; rw [if_neg h0, hm, Nat.add_sub_cancel, hc]; simp [hq]
      have hq2 : (r.1 == b.1) = false := by rw [r1]; simpa using hq
      simp [hlt, hb, hJ.glen, h0, hm, ew, g2, g40, hq2]
      refine clone_frz (n := σ.length) (xs := b.2) (by omega) (by simp; omega) fun t σ2 hO hF2 hhas hcap => ?_
      have hrow2 : σ2[σ1.length]? = some (.row false (eblk b)) := by rw [hF2.get _ (by simp)]; simp
      obtain ⟨s', σ3, q1, q2⟩ := hnew (fun s' σ' => Jn σ.length σ' s' (out ++ [b]) ∧ Fr σ.length σ σ') (fun s' σ' h1 h2 => ⟨h1, h2⟩) t σ2 hO (by simpa using hF2) (by simpa using hhas)
      simp [fill_flat2, hO.flat, bs2_agg, q1, es]
      refine ⟨by rw [ld_at hrow2]; rfl, ?_⟩
      exact forK_go _ hlt (by simp [mkEnv, List.replicate]) ⟨q2.2, s', by rw [hpush, hst]; exact q2.1, rfl⟩
end Go.Gh
namespace Go.Gh
open Go.RowKit Go.Proofs
set_option linter.unusedVariables false
set_option linter.unusedSimpArgs false
set_option maxRecDepth 100000
/-- What Join returns. -/
def joinP (p : List Blk) : List Blk × Int := if singleS [] (flatB p) = true then (if (flatB p).length ≤ 1024 then (joinB p, 0) else ([], 3)) else ([], 2)
theorem p_Join_ok {p : List Blk} {σ : GS} {Post : DV → GS → Prop} (hp : lensB p < 2 ^ 40) (k : ∀ s σ', Jn σ.length σ' s (joinP p).1 → Fr σ.length σ σ' → Post (.tuple [s, .int .i64 (joinP p).2]) σ') : GCall Try.prog F_prefix_Join [fblks p] σ Post := by
  refine gc_prefix_Join ?_
  simp [G_prefix_Join, genv0, List.replicate]
  refine p_count_ok hp ?_
  cases hs : singleS [] (flatB p) with
  | false =>
    simp
    have := k .nils σ (by simpa [joinP, hs] using Jn.nil) .rfl'
    simpa [joinP, hs] using this
  | true =>
    by_cases c : (flatB p).length ≤ 1024
    · have c' : ¬ ((1024 : Int) < (flatB p).length) := by omega
      simp [c']
      refine p_joined_ok hp fun s σ' hJ hF => ?_
      simp
      have := k s σ' (by simpa [joinP, hs, c] using hJ) hF
      simpa [joinP, hs, c] using this
    · have c' : ((1024 : Int) < (flatB p).length) := by omega
      simp [c']
      have := k .nils σ (by simpa [joinP, hs, c] using Jn.nil) .rfl'
      simpa [joinP, hs, c] using this
theorem p_JoinF_ok {p : List Blk} {σ : GS} {Post : DV → GS → Prop} (hp : lensB p < 2 ^ 40) (h : Post (.tuple [fblks (joinP p).1, .int .i64 (joinP p).2]) σ) : GCall Try.prog F_prefix_Join [fblks p] σ Post := by
  have hc := closed_fblks (joinP p).1
  refine GCall.pure (r := .tuple [fblks (joinP p).1, .int .i64 (joinP p).2]) ?_ (by simp [DV.closed, closeds] at hc ⊢; exact hc) h
  refine p_Join_ok hp fun s σ' hJ hF => ⟨hF, .tuple (.cons (hJ.rd fun i hi => .inl hi) (.cons (.same _) .nil))⟩
theorem r_Same_ok {a b : List Blk} {σ : GS} {Post : DV → GS → Prop} (ha : lensB a < 2 ^ 40) (h : Post (.bool (decide (a = b))) σ) : GCall Try.prog F_skolemref03_Same [fblks a, fblks b] σ Post := by
  have hla : a.length ≤ lensB a := by unfold lensB; omega
  refine gc_skolemref03_Same ?_
  by_cases hlen : a.length = b.length
  rotate_left
  · have hne : a ≠ b := fun e => hlen (by rw [e])
    have hlen' : ¬ ((a.length : Int) = b.length) := by omega
    simp [G_skolemref03_Same, genv0, List.replicate, hlen']
    simpa [hne] using h
  simp [G_skolemref03_Same, genv0, List.replicate, hlen]
  refine gfor a.length (fun i e σ' => σ' = σ ∧ (a = b ↔ a.drop i = b.drop i) ∧ e = mkEnv 42 [(0, fblks a), (1, fblks b), (5, .int .i64 i)]) _ ?_ ⟨rfl, by simp, rfl⟩ ?_
  · simp [mkEnv, List.replicate]
  rintro i _ σ hi ⟨rfl, hI, rfl⟩
  simp [mkEnv, List.replicate]
  by_cases hlt : i < a.length
  · obtain ⟨x, hx⟩ := nth_lt hlt
    obtain ⟨y, hy⟩ := nth_lt (l := b) (i := i) (by omega)
    have hx' := nth_get hx
    have hxl := lensB_mem (List.mem_of_getElem? hx')
    rw [drop_get hx, drop_get hy, List.cons.injEq] at hI
    have es : IntKind.i64.wrap ((i : Int) + 1) = (i : Int) + 1 := by rw [wrap_small] <;> omega
    obtain ⟨x1, x2⟩ := x
    obtain ⟨y1, y2⟩ := y
    by_cases e1 : x1 = y1
    · simp [hlt, hx, hy, e1]
      refine r_Ints_ok (by simp at hxl; omega) ?_
      by_cases c : x2 = y2
      · simp [c, es]
        exact forK_go _ hlt (by simp [mkEnv, List.replicate]) ⟨rfl, by rw [hI]; simp [c, e1], rfl⟩
      · have hne : a ≠ b := fun e => by have := (hI.1 e).1; simp [c] at this
        simp [c]
        simpa [hne] using h
    · have hne : a ≠ b := fun e => by have := (hI.1 e).1; simp [e1] at this
      have e2 : (x1 != y1) = true := by simpa using e1
      simp [hlt, hx, hy, e2]
      simpa [hne] using h
  · have : i = a.length := by omega
    subst this
    have he : a = b := hI.2 (by rw [List.drop_length, hlen, List.drop_length])
    simp
    simpa [he] using h
end Go.Gh
namespace Go.Gh
open Go.RowKit
set_option linter.unusedVariables false
set_option linter.unusedSimpArgs false
theorem singleS_nodup : ∀ {l seen : List Int}, singleS seen l = true → l.Nodup ∧ ∀ x ∈ l, x ∉ seen
  | [], seen, _ => ⟨List.nodup_nil, fun x h => by cases h⟩
  | y :: l, seen, h => by
    rw [singleS, Bool.and_eq_true, Bool.and_eq_true] at h
    obtain ⟨⟨h1, h2⟩, h3⟩ := h
    obtain ⟨i1, i2⟩ := singleS_nodup h3
    have h2' : y ∉ seen := by simpa using h2
    refine ⟨List.nodup_cons.2 ⟨fun hy => i2 y hy (by simp), i1⟩, fun x hx => ?_⟩
    rcases List.mem_cons.1 hx with rfl | hx
    · exact h2'
    · exact fun hs => i2 x hx (by simp [hs])
/-- A number stands in one block alone. -/
theorem flatB_uniq {v : Int} : ∀ {p : List Blk} {i j : Nat} {b c : Blk}, (flatB p).Nodup → p[i]? = some b → p[j]? = some c → v ∈ b.2 → v ∈ c.2 → i = j
  | a :: p, 0, 0, b, c, _, _, _, _, _ => rfl
  | a :: p, 0, j + 1, b, c, h, h1, h2, h3, h4 => by
    simp at h1 h2; subst h1
    rw [flatB_cons, List.nodup_append] at h
    exact absurd rfl (h.2.2 v h3 v (mem_flatB (List.mem_of_getElem? h2) h4))
  | a :: p, i + 1, 0, b, c, h, h1, h2, h3, h4 => by
    simp at h1 h2; subst h2
    rw [flatB_cons, List.nodup_append] at h
    exact absurd rfl (h.2.2 v h4 v (mem_flatB (List.mem_of_getElem? h1) h3))
  | a :: p, i + 1, j + 1, b, c, h, h1, h2, h3, h4 => by
    rw [flatB_cons, List.nodup_append] at h
    have := flatB_uniq (p := p) (i := i) (j := j) h.2.1 (by simpa using h1) (by simpa using h2) h3 h4
    omega
theorem qB_mem {p : List Blk} {k : Nat} {ex : Bool} {v : Int} : v ∈ qB (p.take k) ex ↔ ∃ j c, j < k ∧ p[j]? = some c ∧ c.1 = ex ∧ v ∈ c.2 := by
  unfold qB flatB
  rw [List.mem_flatMap]
  constructor
  · rintro ⟨c, hc, hv⟩
    obtain ⟨h1, h2⟩ := List.mem_filter.1 hc
    obtain ⟨j, hj⟩ := List.mem_iff_getElem?.1 h1
    rw [List.getElem?_take] at hj
    split at hj
    · exact ⟨j, c, by assumption, hj, by simpa using h2, hv⟩
    · cases hj
  · rintro ⟨j, c, h1, h2, h3, h4⟩
    refine ⟨c, List.mem_filter.2 ⟨List.mem_of_getElem? (i := j) (by rw [List.getElem?_take, if_pos h1]; exact h2), by simpa using h3⟩, h4⟩
theorem sortZ_mem {l : List Int} {v : Int} : v ∈ sortZ l ↔ v ∈ l := List.mem_mergeSort
theorem sortZ_len (l : List Int) : (sortZ l).length = l.length := List.length_mergeSort _
theorem findO_in {v : Int} : ∀ {p : List Blk} {k : Nat}, v ∈ flatB p → (findO k p v).isSome = true
  | [], k, h => by cases h
  | b :: p, k, h => by
    rw [findO]
    split
    · rfl
    · rename_i hc
      rcases List.mem_append.1 h with h | h
      · exact absurd (by simpa using h) hc
      · exact findO_in h
/-- Of On: a number of the block at kb, asked of one of the block at ka. -/
theorem onP_has {p : List Blk} {a b : Int} {ka kb : Nat} {ea eb : Bool} (hm : mayB p = true) (ha : findO 0 p a = some (ka, ea)) (hb : findO 0 p b = some (kb, eb)) : (onP p a).1.contains b = (decide (kb < ka) && decide (eb ≠ ea)) ∧ (onP p a).2 = 0 := by
  obtain ⟨_, _, hs⟩ := mayB_parts hm
  have hnd := (singleS_nodup hs).1
  obtain ⟨cb, _, hb2, hb3, hb4⟩ := findO_mem hb
  simp only [Nat.sub_zero] at hb2 hb3
  unfold onP
  rw [if_pos hm, ha]
  refine ⟨?_, rfl⟩
  have key : b ∈ sortZ (qB (p.take ka) !ea) ↔ (kb < ka ∧ eb ≠ ea) := by
    rw [sortZ_mem, qB_mem]
    constructor
    · rintro ⟨j, c, h1, h2, h3, h4⟩
      have := flatB_uniq hnd h2 hb2 h4 hb4
      subst this
      rw [h2] at hb2; cases hb2
      exact ⟨h1, by rw [hb3, h3]; cases ea <;> simp⟩
    · rintro ⟨h1, h2⟩
      exact ⟨kb, cb, h1, hb2, by rw [← hb3]; cases ea <;> cases eb <;> simp_all, hb4⟩
  simp only
  by_cases h : b ∈ sortZ (qB (p.take ka) !ea)
  · have h2 := key.1 h
    simp [h, h2]
  · have h2 : ¬ (kb < ka ∧ eb ≠ ea) := fun e => h (key.2 e)
    have : (sortZ (qB (p.take ka) !ea)).contains b = false := by simpa using h
    rw [this]
    symm
    simpa using h2
theorem joinF_alt : ∀ (p out : List Blk), (∀ c, out[out.length - 1]? = some c → altB (some c.1) p = true) → (out = [] → altB none p = true) → p.foldl joinStep out = out ++ p
  | [], out, _, _ => by simp
  | b :: p, out, h1, h2 => by
    have hst : joinStep out b = out ++ [b] ∧ altB (some b.1) p = true := by
      cases hm : out.length with
      | zero =>
        have hon : out = [] := List.length_eq_zero_iff.1 hm
        have := h2 hon
        simp only [altB, Bool.and_eq_true, Bool.not_eq_true', List.isEmpty_eq_false_iff] at this
        refine ⟨?_, this.2⟩
        unfold joinStep; rw [if_neg this.1.1, hon]; rfl
      | succ m =>
        obtain ⟨c, hc⟩ := get_lt (xs := out) (i := out.length - 1) (by omega)
        have := h1 c hc
        simp only [altB, Bool.and_eq_true, Bool.not_eq_true', List.isEmpty_eq_false_iff, decide_eq_true_eq] at this
        refine ⟨?_, this.2⟩
        unfold joinStep; rw [if_neg this.1.1, hc]
        simp only
        rw [if_neg fun e => this.1.2 (by rw [e])]
    rw [List.foldl_cons, hst.1, joinF_alt p (out ++ [b]) (fun c hc => by simp at hc; subst hc; exact hst.2) (fun e => by simp at e)]
    simp
theorem joinB_may {p : List Blk} (h : mayB p = true) : joinB p = p := by
  unfold joinB
  have := joinF_alt p [] (fun c hc => by simp at hc) (fun _ => (mayB_parts h).1)
  simpa using this
theorem altB_flat {b : Blk} {p : List Blk} {o : Option Bool} (h : altB o (b :: p) = true) : flatB (b :: p) ≠ [] := by
  simp only [altB, Bool.and_eq_true, Bool.not_eq_true', List.isEmpty_eq_false_iff] at h
  intro e
  rw [flatB_cons] at e
  exact h.1.1 (List.append_eq_nil_iff.1 e).1
theorem flatB_take_le (p : List Blk) (k : Nat) : (flatB (p.take k)).length ≤ (flatB p).length := by
  have : flatB p = flatB (p.take k) ++ flatB (p.drop k) := by rw [← flatB_append, List.take_append_drop]
  rw [this]; simp
theorem onP_len (p : List Blk) (v : Int) : (onP p v).1.length ≤ (flatB p).length := by
  unfold onP
  split
  · split
    · rename_i k e _
      rw [sortZ_len]
      exact Nat.le_trans (qB_le _ _) (flatB_take_le p k)
    · simp
  · simp
end Go.Gh
namespace Go.Gh
open Go.RowKit Go.Proofs
set_option linter.unusedVariables false
set_option linter.unusedSimpArgs false
set_option maxRecDepth 100000
theorem l_wide_one {p : List Blk} {most : Int} {σ : GS} {Post : DV → GS → Prop} (hp : p.length < 2 ^ 60) (h : ∀ b, Post (.bool b) σ) : GCall Try.prog F_skolemlaw03_wide [fblks p, .nils, .int .i64 most] σ Post := by
  refine GCall.reads (args' := [fblks p, fcls [], .int .i64 most]) (.cons (.same _) (.cons (.nils 1) (.cons (.same _) .nil))) (l_wide_any hp (by simp) h)
end Go.Gh
namespace Go.Gh
open Go.RowKit Go.Proofs
set_option linter.unusedVariables false
set_option linter.unusedSimpArgs false
set_option maxRecDepth 100000
set_option maxHeartbeats 2000000 in
theorem sides_ok {p : List Blk} {x y : Int} (hp : lensB p < 2 ^ 40) (hx : 0 ≤ x ∧ x < 65536) (hy : 0 ≤ y ∧ y < 65536) {σ : GS} {Post : DV → GS → Prop} (h : Post (.bool true) σ) : GCall Try.prog F_skolemlaw03_PrefixSides [fblks p, .int .u16 x, .int .u16 y] σ Post := by
  have hlb := lensB_flat p
  refine GCall.say (r := .bool true) ?_ rfl h
  refine gc_skolemlaw03_PrefixSides ?_
  simp [G_skolemlaw03_PrefixSides, genv0, List.replicate]
  refine l_wide_one (by omega) fun b => ?_
  cases b with
  | true =>
    simp
    refine head_ok ?_
    simp
    exact .rfl'
  | false =>
    simp
    refine r_May_ok hp ?_
    cases hm : mayB p with
    | false =>
      simp
      refine head_ok ?_
      simp
      exact .rfl'
    | true =>
      by_cases h0 : p = []
      · simp [h0]
        refine head_ok ?_
        simp
        exact .rfl'
      simp [h0]
      refine r_Flat_ok hp ?_
      obtain ⟨h1, h2, h3⟩ := mayB_parts hm
      have hne : flatB p ≠ [] := by
        cases p with
        | nil => exact absurd rfl h0
        | cons b q => exact altB_flat h1
      have hpos : 0 < (flatB p).length := List.length_pos_iff.2 hne
      obtain ⟨l, hl⟩ : ∃ l, flatB p = l := ⟨_, rfl⟩
      have hrem : ∀ z : Int, 0 ≤ z ∧ z < 65536 → ∃ v, 0 ≤ z.tmod l.length ∧ nth l (z.tmod l.length).toNat = some v ∧ v ∈ l := fun z hz => by
        rw [Int.tmod_eq_emod_of_nonneg hz.1]
        have e1 := Int.emod_nonneg z (b := (l.length : Int)) (by rw [← hl]; omega)
        have e2 := Int.emod_lt_of_pos z (b := (l.length : Int)) (by rw [← hl]; omega)
        obtain ⟨v, hv⟩ := nth_lt (l := l) (i := (z % (l.length : Int)).toNat) (by omega)
        exact ⟨v, e1, hv, List.mem_of_getElem? (nth_get hv)⟩
      obtain ⟨a, a1, a2, a3⟩ := hrem x hx
      obtain ⟨b, b1, b2, b3⟩ := hrem y hy
      have wx : IntKind.i64.wrap x = x := by rw [wrap_small] <;> omega
      have wy : IntKind.i64.wrap y = y := by rw [wrap_small] <;> omega
      rw [hl] at hne ⊢
      obtain ⟨⟨ka, ea⟩, hfa⟩ := Option.isSome_iff_exists.1 (findO_in (p := p) (k := 0) (v := a) (by rw [hl]; exact a3))
      obtain ⟨⟨kb, eb⟩, hfb⟩ := Option.isSome_iff_exists.1 (findO_in (p := p) (k := 0) (v := b) (by rw [hl]; exact b3))
      obtain ⟨o1, o2⟩ := onP_has hm hfa hfb
      obtain ⟨o3, o4⟩ := onP_has hm hfb hfa
      have hlen1 : ∀ v, (onP p v).1.length < 2 ^ 60 := fun v => by have := onP_len p v; omega
      have hj : joinP p = (p, 0) := by unfold joinP; rw [if_pos h3, if_pos h2, joinB_may hm]
      simp [wx, wy, hne, a1, a2, b1, b2]
      refine p_On_ok hp ?_
      simp
      refine p_On_ok hp ?_
      simp
      refine p_Find_ok hp ?_
      rw [hfa]
      simp [findT]
      refine p_Find_ok hp ?_
      rw [hfb]
      simp [findT]
      refine r_Has_ok (hlen1 _) ?_
      have hwrap : IntKind.i64.wrap (0 + 1) = 1 := by decide
      by_cases he : ea = eb
      · have c1 : (onP p a).1.contains b = false := by rw [o1, he]; simp
        have c2 : (onP p b).1.contains a = false := by rw [o3, he]; simp
        rw [c1]
        simp
        refine r_Has_ok (hlen1 _) ?_
        rw [c2]
        simp
        refine p_JoinF_ok hp ?_
        rw [hj]
        simp [o2, o4, he]
        refine r_Same_ok hp ?_
        simp
        refine head_ok ?_
        simp
        exact .rfl'
      have hee : (ea != eb) = true := by simpa using he
      have hnk : ka ≠ kb := fun e => by
        obtain ⟨c, _, q2, q3, _⟩ := findO_mem hfa
        obtain ⟨d, _, r2, r3, _⟩ := findO_mem hfb
        simp only [Nat.sub_zero] at q2 q3 r2 r3
        rw [e, r2] at q2; cases q2
        exact he (q3.trans r3.symm)
      by_cases hlt : kb < ka
      · have c1 : (onP p a).1.contains b = true := by rw [o1]; simp [hlt]; exact fun e => he e.symm
        have c2 : (onP p b).1.contains a = false := by rw [o3]; simp; intro h; omega
        rw [c1]
        simp
        refine r_Has_ok (hlen1 _) ?_
        rw [c2]
        simp
        refine p_JoinF_ok hp ?_
        rw [hj]
        simp [o2, o4, hee]
        refine r_Same_ok hp ?_
        simp
        refine head_ok ?_
        simp
        exact .rfl'
      · have c1 : (onP p a).1.contains b = false := by rw [o1]; simp; intro h; omega
        have c2 : (onP p b).1.contains a = true := by rw [o3]; simp [he]; omega
        rw [c1]
        simp
        refine r_Has_ok (hlen1 _) ?_
        rw [c2]
        simp
        refine p_JoinF_ok hp ?_
        rw [hj]
        simp [o2, o4, hee]
        refine r_Same_ok hp ?_
        simp
        refine head_ok ?_
        simp
        exact .rfl'
end Go.Gh
