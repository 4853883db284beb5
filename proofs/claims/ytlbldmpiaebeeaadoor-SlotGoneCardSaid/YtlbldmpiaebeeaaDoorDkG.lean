/- Bytes: bytes.Clone; the reference's Copy and Same (turned from the texts of Events). -/
import Derived.Test.YtlbldmpiaebeeaaDoorDkC
namespace Go.Proofs.YtlbldmpiaebeeaaDoor
open Go Go.RowKit

set_option maxRecDepth 100000 in
set_option maxHeartbeats 2000000 in
theorem clone_d (w : World) (B : Nat) (v : Value) (l : List UInt8) (hB : B ≤ w.heap.size) (hr : RdB w B v l) (hl : l.length ≤ 1073741824) : Calls Tryd.prog 24 #[v] w fun e w' => ∃ v, e = .returned v ∧ OwnB w' w.heap.size v l ∧ Gr w w' := by
  have hR := hr
  have q := fun (w : World) (a : Option Addr) (n c n' c' : Nat) => Lib.run_eql_slice_nil (P := Tryd.prog) w 22 _ a n c n' c' Tryd.underlying22
  obtain ⟨A, c, rfl, hc, hrr⟩ := hr
  rcases A with _ | ad
  · have h0 : l = [] := by
      rcases Nat.eq_zero_or_pos l.length with h0 | h0
      · exact List.eq_nil_of_length_eq_zero h0
      · obtain ⟨ad, h', _⟩ := hrr.2 h0
        cases h'
    subst h0
    go_enter Tryd.func24, Tryd.ntmps24
    go_wp2
    go_ret
    exact ⟨_, rfl, OwnB.nil _ _, Gr.refl _⟩
  · go_enter Tryd.func24, Tryd.ntmps24
    go_wp2_with (at_builtin
                 refine wpList_appendB _ rfl (.tmp 5) (.tmp 6) rfl w.heap.size _ [] rfl (OwnB.new w [] _ (Nat.le_refl _) (by simp [maxLen]) _ (by simp [bvs])) B _ l rfl (hR.gr hB (Gr.alloc _ _)) (by simp; omega) (by simp) ?_
                 intro v1 w1 ho1 hb1 _)
    go_ret
    exact ⟨_, rfl, by simpa using ho1, Below.trans (Gr.alloc _ _) hb1⟩
set_option maxRecDepth 100000 in
set_option maxHeartbeats 2000000 in
theorem same_d (w : World) (B : Nat) (a b : Value) (l m : List UInt8) (hB : B ≤ w.heap.size) (ha : RdB w B a l) (hb : RdB w B b m) (hla : l.length ≤ 1073741824) :
    Calls Tryd.prog 18 #[a, b] w fun e w' => e = .returned (.bool (decide (l = m))) ∧ Gr w w' := by
  obtain ⟨A, c, rfl, hc, hA⟩ := ha
  obtain ⟨A', c', rfl, hc', hA'⟩ := hb
  by_cases hlen : l.length = m.length
  · go_enter Tryd.func18, Tryd.ntmps18
    go_wp2
    go_loopw [5] (fun v5 wr => ∃ k : Nat, v5 = .int .i64 k ∧ k ≤ l.length ∧ l.take k = m.take k ∧ Gr w wr) (fun v5 _ => l.length - (intOf v5).toNat)
    case atStart => exact ⟨0, rfl, by omega, rfl, Gr.refl _⟩
    case round =>
      obtain ⟨k, rfl, hk, he, hg⟩ := hrel
      by_cases hp : k < l.length
      · obtain ⟨ad, x, rfl, hbk, hx, hc1⟩ := hA.byte rfl k hp
        obtain ⟨ad', y, rfl, hbk', hy, hc1'⟩ := hA'.byte rfl k (show k < m.length by omega)
        rw [← hg.cell (by rw [block_of_add]; omega)] at hc1 hc1'
        by_cases hxy : x = y
        · subst hxy
          go_wp2
          go_quiet (fail)
          go_wp2
          go_roundw
          case rel => exact ⟨k + 1, by go_num, by omega, by rw [take_next hx, take_next hy, he], Gr.trans hg (Gr.drewN _ _)⟩
          case measure => simp [intOf]; omega
        · have hne : ¬ (x.toNat = y.toNat) := fun e => hxy (UInt8.toNat_inj.1 e)
          go_wp2
          go_quiet (fail)
          go_wp2
          go_ret
          refine ⟨ret_bool ?_, Gr.trans hg (Gr.drewN _ _)⟩
          rw [eq_comm, decide_eq_false_iff_not]
          rintro rfl
          exact hxy (Option.some.inj (hx.symm.trans hy))
      · obtain rfl : k = l.length := by omega
        go_wp2
        go_ret
        refine ⟨ret_bool ?_, hg⟩
        rw [eq_comm, decide_eq_true_eq]
        rw [List.take_length, hlen, List.take_length] at he
        exact he
  · go_enter Tryd.func18, Tryd.ntmps18
    go_wp2
    go_ret
    refine ⟨ret_bool ?_, Gr.refl _⟩
    rw [eq_comm, decide_eq_false_iff_not]
    rintro rfl
    exact hlen rfl
theorem madeCells_d (z : Value) (n : Nat) : madeCells #[z] n = (List.replicate n z).toArray := by
  apply Array.ext
  · simp [madeCells]
  · intro i h1 h2
    simp [madeCells, Nat.mod_one]
theorem make_d (n : Nat) (h : n ≤ 140737488355328) (W : World) : (Instr.makeSlice 22 (.int .i64 (n : Int)) (.int .i64 (n : Int))).run Tryd.prog W = .ok (.slice (some ⟨W.heap.size, 0, none⟩) n n) (W.alloc (.cells (List.replicate n (.int .u8 0)).toArray 5)) := by
  have hu := u8_info
  cases hi : Tryd.prog.info? 5 with
  | none => rw [hi] at hu; cases hu
  | some i =>
    rw [hi] at hu
    simp only [Option.map_some, Option.some.injEq, Prod.mk.injEq] at hu
    obtain ⟨hz, hs, hb⟩ := hu
    rw [run_make_rowN (P := Tryd.prog) 22 5 i _ (by kernel_rfl) hi hz .i64 .i64 n n (Nat.le_refl _) (by rw [hb]; omega) (by omega) W, hs, Nat.mul_one]
    simp only [← madeCells_d]
    rfl
/-- The cells of a sector of which so many bytes are c. -/
def fillS (c : UInt8) (k : Nat) : Array Value := (bvs (List.replicate k c ++ List.replicate (256 - k) 0)).toArray
theorem fillS_size (c : UInt8) (k : Nat) (h : k ≤ 256) : (fillS c k).size = 256 := by
  unfold fillS
  rw [List.size_toArray, bvs_length, List.length_append, List.length_replicate, List.length_replicate]
  omega
theorem fillS_zero (c : UInt8) : fillS c 0 = (List.replicate 256 (Value.int .u8 0)).toArray := by
  unfold fillS bvs
  rw [List.replicate_zero, List.nil_append, List.map_replicate]
  rfl
theorem fillS_end (c : UInt8) : (fillS c 256).toList = bvs (fullS c) := by
  unfold fillS fullS
  rw [Nat.sub_self, List.replicate_zero, List.append_nil]
theorem fillS_set (c : UInt8) (k : Nat) (h : k < 256) : (fillS c k).setIfInBounds k (.int .u8 (c.toNat : Int)) = fillS c (k + 1) := by
  unfold fillS bvs
  rw [List.setIfInBounds_toArray]
  congr 1
  rw [show (.int .u8 (c.toNat : Int) : Value) = bv c from rfl, ← List.map_set]
  congr 1
  rw [show 256 - k = (256 - (k + 1)) + 1 by omega, List.replicate_succ (n := 256 - (k + 1)), List.set_append_right _ _ (by rw [List.length_replicate]; exact Nat.le_refl _), List.length_replicate, Nat.sub_self, List.set_cons_zero, List.replicate_succ', List.append_assoc]
  rfl
theorem make256 (W : World) : (Instr.makeSlice 22 (.int .i64 256) (.int .i64 256)).run Tryd.prog W = .ok (.slice (some ⟨W.heap.size, 0, none⟩) 256 256) (W.alloc (.cells (fillS 0 0) 5)) := by
  rw [fillS_zero]
  exact make_d 256 (by decide) W
end Go.Proofs.YtlbldmpiaebeeaaDoor
