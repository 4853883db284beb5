/- Numbers and texts as bytes: the walks of package tlv's writers and of its reference's. -/
import Derived.Test.YteoidkjiigjlaaaDoorBytes
import Derived.LoopTactic
namespace Go.Proofs.YteoidkjiigjlaaaDoor
open Go Go.RowKit

theorem beL_len_step {m : Nat} (h : 0 < m) : (beL m).length = (beL (m / 256)).length + 1 := by rw [beL_pos h]; simp

/-- The cells of a number's block, where i of its bytes are still to come. -/
def numC (n i : Nat) : List Value := bv (UInt8.ofNat (beL n).length) :: (List.replicate i (.int .u8 0) ++ bvs ((beL n).drop i))
theorem numC_len (n i : Nat) (h : i ≤ (beL n).length) : (numC n i).length = 1 + (beL n).length := by
  simp [numC, bvs]; omega
theorem numC_zero (n : Nat) : numC n 0 = bvs (numB n) := by simp [numC, numB, bvs]
theorem bv_nat (k : Nat) (h : k < 256) : bv (UInt8.ofNat k) = .int .u8 (k : Int) := by
  simp [bv, Nat.mod_eq_of_lt h]
theorem beL_cut {n m i : Nat} (h : i < (beL n).length) (hm : beL m = (beL n).take (i + 1)) : 0 < m ∧ beL (m / 256) = (beL n).take i ∧ UInt8.ofNat (m % 256) = (beL n)[i] := by
  rcases Nat.eq_zero_or_pos m with rfl | hp
  · rw [beL_zero] at hm
    have := congrArg List.length hm
    simp at this
    omega
  · rw [beL_pos hp, List.take_add_one, List.getElem?_eq_getElem h] at hm
    have := List.append_inj' hm (by simp)
    refine ⟨hp, this.1, ?_⟩
    simpa using this.2
theorem numC_step {n m i : Nat} (h : i < (beL n).length) (hm : beL m = (beL n).take (i + 1)) : (numC n (i + 1)).set (i + 1) (.int .u8 ((m : Int) % 256)) = numC n i := by
  obtain ⟨_, _, e⟩ := beL_cut h hm
  have e1 : (beL n).drop i = (beL n)[i] :: (beL n).drop (i + 1) := by rw [List.drop_eq_getElem_cons h]
  have e2 : (.int .u8 ((m : Int) % 256) : Value) = bv (beL n)[i] := by
    rw [← e, bv_nat _ (by omega)]
    congr 1
  rw [e2]
  unfold numC
  rw [e1, List.set_cons_succ, List.replicate_succ', List.append_assoc, List.set_append_right _ _ (by simp)]
  simp [bvs, -List.map_drop, -List.getElem_cons_drop]
theorem numC_start (n : Nat) (h : n < 18446744073709551616) : (Array.replicate (1 + (beL n).length) (Value.int .u8 0)).setIfInBounds 0 (.int .u8 ((beL n).length : Int)) = (numC n (beL n).length).toArray := by
  have hl := beL_len8 n h
  rw [← bv_nat _ (by omega)]
  apply Array.toList_inj.1
  rw [Array.toList_setIfInBounds, Array.toList_replicate, Nat.add_comm, List.replicate_succ]
  simp [numC, bvs]
theorem madeCells_one (z : Value) (n : Nat) : madeCells #[z] n = (List.replicate n z).toArray := by
  apply Array.ext
  · simp [madeCells]
  · intro i h1 h2
    simp [madeCells, Nat.mod_one]
theorem make_u8 (n : Nat) (h : n ≤ 140737488355328) (W : World) : (Instr.makeSlice 25 (.int .i64 (n : Int)) (.int .i64 (n : Int))).run Tryd.prog W = .ok (.slice (some ⟨W.heap.size, 0, none⟩) n n) (W.alloc (.cells (List.replicate n (.int .u8 0)).toArray 5)) := by
  have hu := u8_info
  cases hi : Tryd.prog.info? 5 with
  | none => rw [hi] at hu; cases hu
  | some i =>
    rw [hi] at hu
    simp only [Option.map_some, Option.some.injEq, Prod.mk.injEq] at hu
    obtain ⟨hz, hs, hb⟩ := hu
    rw [run_make_rowN (P := Tryd.prog) 25 5 i _ (by kernel_rfl) hi hz .i64 .i64 n n (Nat.le_refl _) (by rw [hb]; omega) (by omega) W, hs, Nat.mul_one]
    simp only [← madeCells_one]
    rfl

set_option maxRecDepth 100000 in
set_option maxHeartbeats 2000000 in
theorem num_any (n : Nat) (w : World) (h : n < 18446744073709551616) : Calls Tryd.prog 68 #[.int .u64 n] w fun e w' => ∃ v, e = .returned v ∧ OwnB w' w.heap.size v (numB n) ∧ Gr w w' := by
  have hl := beL_len8 n h
  have hmk := make_u8 (1 + (beL n).length) (by omega)
  simp only [Int.natCast_add, Int.natCast_one] at hmk
  go_enter Tryd.func68, Tryd.ntmps68
  go_wp2
  go_loop [3, 4] (fun v3 v4 => ∃ (k m : Nat), v3 = .int .i64 k ∧ v4 = .int .u64 m ∧ m < 18446744073709551616 ∧ (beL m).length + k = (beL n).length) (fun _ v4 => (intOf v4).toNat)
  case atStart => exact ⟨0, n, rfl, rfl, h, by simp⟩
  case round =>
    obtain ⟨k, m, rfl, rfl, hm, hk⟩ := hrel
    by_cases hp : 0 < m
    · have e := beL_len_step hp
      go_wp2
      go_round
      case rel => exact ⟨k + 1, m / 256, by go_num, by go_num, by omega, by omega⟩
      case measure => simp [intOf]; omega
    · obtain rfl : m = 0 := by omega
      rw [beL_zero] at hk
      obtain rfl : k = (beL n).length := by simpa using hk
      have h0 : (Array.replicate (1 + (beL n).length) (Value.int .u8 0))[0]? = some (.int .u8 0) := by rw [Array.getElem?_replicate, if_pos (by omega)]
      go_wp2
      go_loopw [0, 6] (fun v0 v6 wr => ∃ (i m : Nat), v0 = .int .u64 m ∧ v6 = .int .i64 i ∧ m < 18446744073709551616 ∧ i ≤ (beL n).length ∧ beL m = (beL n).take i ∧ Gr w wr ∧ Blk wr w.heap.size 5 (numC n i).toArray) (fun _ v6 _ => (intOf v6).toNat)
      case atStart => exact ⟨(beL n).length, n, rfl, rfl, h, Nat.le_refl _, by rw [List.take_length], Gr.alloc w _, by rw [← numC_start n h]; exact Blk.new w _ _⟩
      case round =>
        obtain ⟨i, m, rfl, rfl, hm, hi, hb, hg, hB⟩ := hrel
        by_cases hp : 0 < i
        · have c1 : wr.cell? ⟨w.heap.size, i, none⟩ = some (.int .u8 0) := by
            obtain ⟨j, rfl⟩ : ∃ j, i = j + 1 := ⟨i - 1, by omega⟩
            rw [hB.cell]
            have : (List.replicate (j + 1) (Value.int IntKind.u8 0) ++ bvs (List.drop (j + 1) (beL n)))[j]? = some (Value.int IntKind.u8 0) := by
              rw [List.getElem?_append_left (by simp), List.getElem?_replicate, if_pos (by omega)]
            simpa [numC] using this
          have c2 := hB.frozen i
          go_wp2
          go_roundw
          case rel =>
            obtain ⟨j, rfl⟩ : ∃ j, i = j + 1 := ⟨i - 1, by omega⟩
            obtain ⟨hp', hb', _⟩ := beL_cut (by omega) hb
            exact ⟨j, m / 256, by go_num, by go_num, by omega, by omega, hb', Below.setCell hg (Nat.le_refl _) _, by rw [← numC_step (by omega) hb]; simpa using hB.set_ (j + 1) _⟩
          case measure => simp [intOf]; omega
        · obtain rfl : i = 0 := by omega
          go_wp2
          go_ret
          refine ⟨_, rfl, ?_, hg⟩
          have e : 1 + (beL n).length = (numB n).length := by simp [numB]; omega
          rw [e]
          rw [numC_zero] at hB
          refine ⟨by simp [bvs], .inr ⟨w.heap.size, (numB n).length, _, rfl, Nat.le_refl _, hB, Nat.le_refl _, by have := numB_len n h; unfold maxLen; omega, by simp [bvs], ?_⟩⟩
          rw [Nat.mul_one, List.take_of_length_le (by simp [bvs])]
set_option maxRecDepth 100000 in
set_option maxHeartbeats 2000000 in
theorem refnum_any (n : Nat) (w : World) (h : n < 18446744073709551616) : Calls Tryd.prog 70 #[.int .u64 n] w fun e w' => ∃ v, e = .returned v ∧ OwnB w' w.heap.size v (numB n) ∧ Gr w w' := by
  have hl := beL_len8 n h
  go_enter Tryd.func70, Tryd.ntmps70
  go_wp2
  go_loopw [0, 3] (fun v0 v3 wr => ∃ (m : Nat) (l : List UInt8), v0 = .int .u64 m ∧ m < 18446744073709551616 ∧ beL m ++ l = beL n ∧ OwnB wr w.heap.size v3 l ∧ Gr w wr) (fun v0 _ _ => (intOf v0).toNat)
  case atStart => exact ⟨n, [], rfl, h, by simp, OwnB.nil _ _, Gr.refl _⟩
  case round =>
    obtain ⟨m, l, rfl, hm, hml, ho, hg⟩ := hrel
    by_cases hp : 0 < m
    · have hp' := beL_pos hp
      have hlen : l.length ≤ 8 := by have := congrArg List.length hml; simp at this; omega
      go_wp2_with (at_builtin
                   refine wpList_appendB _ rfl (.tmp 9) (.tmp 10) rfl w.heap.size _ [UInt8.ofNat (m % 256)] rfl (OwnB.new wr _ _ hg.size (by simp [maxLen]) _ (by simp [bvs, bv])) wr.heap.size _ l rfl (ho.rd.gr (Nat.le_refl _) (Gr.alloc _ _)) (by simp; omega) (by have := hg.size; simp; omega) ?_
                   intro v1 w1 ho1 hb1 _)
      go_roundw
      case rel => exact ⟨m / 256, _, by go_num, by omega, by rw [← hml, hp']; simp, ho1, Below.trans (Gr.new hg _) hb1⟩
      case measure => simp [intOf]; omega
    · obtain rfl : m = 0 := by omega
      rw [beL_zero] at hml
      obtain rfl : l = beL n := by simpa using hml
      obtain ⟨A, c, rfl, hc, _⟩ := ho.rd
      go_wp2_with (at_builtin
                   refine wpList_appendB _ rfl (.tmp 17) (.tmp 18) rfl w.heap.size _ [UInt8.ofNat (beL n).length] rfl (OwnB.new wr _ _ hg.size (by simp [maxLen]) _ (by simp [bvs, bv_nat _ (show (beL n).length < 256 by omega)])) wr.heap.size _ (beL n) rfl (ho.rd.gr (Nat.le_refl _) (Gr.alloc _ _)) (by simp; omega) (by have := hg.size; simp; omega) ?_
                   intro v1 w1 ho1 hb1 _)
      go_ret
      exact ⟨_, rfl, ho1, Below.trans (Gr.new hg _) hb1⟩
end Go.Proofs.YteoidkjiigjlaaaDoor
