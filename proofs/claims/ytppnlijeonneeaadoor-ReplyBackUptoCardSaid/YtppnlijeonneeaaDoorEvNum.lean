/- Numbers and texts as bytes: the walks of package tlv's writers and of its reference's. -/
import Derived.Test.YtppnlijeonneeaaDoorBytes
import Derived.LoopTactic
namespace Go.Proofs.YtppnlijeonneeaaDoor
open Go Go.RowKit

theorem beL_len_step {m : Nat} (h : 0 < m) : (beL m).length = (beL (m / 256)).length + 1 := by rw [beL_pos h]; simp

/-- The cells of a number's block, where i of its bytes are still to come. -/
def numC (n i : Nat) : List Value := bv (UInt8.ofNat (beL n).length) :: (List.replicate i (.int .u8 0) ++ bvs ((beL n).drop i))
theorem numC_len (n i : Nat) (h : i ≤ (beL n).length) : (numC n i).length = 1 + (beL n).length := by
  simp [numC, bvs]; omega
theorem numC_zero (n : Nat) : numC n 0 = bvs (numB n) := by simp [numC, numB, bvs]
theorem bv_nat (k : Nat) (h : k < 256) : bv (UInt8.ofNat k) = .int .u8 (k : Int) := by
  simp [bv, Nat.mod_eq_of_lt h]
theorem beL_cut {n m i : Nat} (h : i < (beL n).length) (hm : beL m = (beL n).take (i + 1)) : 0 < m ∧ beL (m / 256) = (beL n).take i ∧ UInt8.ofNat (m % 256) = (beL n)[i] := by
  rcases Nat.eq_zero_or_pos m with rfl | hp
  · rw [beL_zero] at hm
    have := congrArg List.length hm
    simp at this
    omega
  · rw [beL_pos hp, List.take_add_one, List.getElem?_eq_getElem h] at hm
    have := List.append_inj' hm (by simp)
    refine ⟨hp, this.1, ?_⟩
    simpa using this.2
theorem numC_step {n m i : Nat} (h : i < (beL n).length) (hm : beL m = (beL n).take (i + 1)) : (numC n (i + 1)).set (i + 1) (.int .u8 ((m : Int) % 256)) = numC n i := by
  obtain ⟨_, _, e⟩ := beL_cut h hm
  have e1 : (beL n).drop i = (beL n)[i] :: (beL n).drop (i + 1) := by rw [List.drop_eq_getElem_cons h]
  have e2 : (.int .u8 ((m : Int) % 256) : Value) = bv (beL n)[i] := by
    rw [← e, bv_nat _ (by omega)]
    congr 1
  rw [e2]
  unfold numC
  rw [e1, List.set_cons_succ, List.replicate_succ', List.append_assoc, List.set_append_right _ _ (by simp)]
  simp [bvs, -List.map_drop, -List.getElem_cons_drop]
theorem numC_start (n : Nat) (h : n < 18446744073709551616) : (Array.replicate (1 + (beL n).length) (Value.int .u8 0)).setIfInBounds 0 (.int .u8 ((beL n).length : Int)) = (numC n (beL n).length).toArray := by
  have hl := beL_len8 n h
  rw [← bv_nat _ (by omega)]
  apply Array.toList_inj.1
  rw [Array.toList_setIfInBounds, Array.toList_replicate, Nat.add_comm, List.replicate_succ]
  simp [numC, bvs]
theorem madeCells_one (z : Value) (n : Nat) : madeCells #[z] n = (List.replicate n z).toArray := by
  apply Array.ext
  · simp [madeCells]
  · intro i h1 h2
    simp [madeCells, Nat.mod_one]
theorem make_u8 (n : Nat) (h : n ≤ 140737488355328) (W : World) : (Instr.makeSlice 49 (.int .i64 (n : Int)) (.int .i64 (n : Int))).run Tryd.prog W = .ok (.slice (some ⟨W.heap.size, 0, none⟩) n n) (W.alloc (.cells (List.replicate n (.int .u8 0)).toArray 5)) := by
  have hu := u8_info
  cases hi : Tryd.prog.info? 5 with
  | none => rw [hi] at hu; cases hu
  | some i =>
    rw [hi] at hu
    simp only [Option.map_some, Option.some.injEq, Prod.mk.injEq] at hu
    obtain ⟨hz, hs, hb⟩ := hu
    rw [run_make_rowN (P := Tryd.prog) 49 5 i _ (by kernel_rfl) hi hz .i64 .i64 n n (Nat.le_refl _) (by rw [hb]; omega) (by omega) W, hs, Nat.mul_one]
    simp only [← madeCells_one]
    rfl

end Go.Proofs.YtppnlijeonneeaaDoor
