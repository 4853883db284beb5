/- The reference's token at a place. -/
import Derived.Test.YtogpmihepfnoaaaGreatDoorLexS
import Derived.Test.YtogpmihepfnoaaaGreatDoorSpanR
namespace Go.Proofs.YtogpmihepfnoaaaGreatDoor
open Go Go.RowKit

theorem ext_at (s : ByteArray) (i n : Nat) : s.extract i (i + n) = ba ((s.data.toList.drop i).take n) := by
  rw [← ba_of (s.extract i (i + n))]
  congr 1
  rw [ByteArray.data_extract, Array.toList_extract, List.extract_eq_take_drop]
  congr 1
  omega
set_option maxRecDepth 100000 in
set_option maxHeartbeats 2000000 in
theorem rone_low (s : ByteArray) (i : Nat) (c : UInt8) (r : List UInt8) (w : World) (hs : s.size ≤ 10000) (hi : i < s.size) (hc : s[i] = c) (hl : lowB c = true) (hr : s.data.toList.drop i = c :: r) : Calls Tryz.prog 43 #[.string s, .int .i64 (i : Int)] w fun e w' =>
    e = .returned (.tuple #[.agg (tkC 1 (ba ((c :: r).take (runL wordB (c :: r)))) 0 i), .int .i64 ((i + runL wordB (c :: r) : Nat) : Int), .int .i64 0]) ∧ Gr w w' := by
  have h2 := lowB_iff.1 hl
  have t40 : ((c.toNat : Int) == 40) = false := by simp; omega
  have t41 : ((c.toNat : Int) == 41) = false := by simp; omega
  have t59 : ((c.toNat : Int) == 59) = false := by simp; omega
  have c1 := fun W => rlow_any c W
  simp only [hl] at c1
  have hx := ext_at s i (runL wordB (c :: r))
  rw [hr] at hx
  have HX := Lib.hid hx
  have HRR := Lib.hid hr
  have hib : (i : Int) ≤ 10000 := by omega
  clear hx hr hl h2
  generalize hN : runL wordB (c :: r) = n at *
  have HN := Lib.hid hN
  clear hN
  generalize ba ((c :: r).take n) = tx at *
  go_enter Tryz.func43, Tryz.ntmps43
  go_wp2_with (go_at_call 68; (with_reducible refine (c1 _).mono ?_); rintro e w1 ⟨rfl, rfl⟩)
  go_loop [8] (fun v8 => ∃ j : Nat, v8 = .int .i64 (j : Int) ∧ i ≤ j ∧ j ≤ s.size ∧ j + runL wordB (s.data.toList.drop j) = i + n) (fun v8 => s.size - (intOf v8).toNat)
  case atStart => exact ⟨i, rfl, Nat.le_refl _, Nat.le_of_lt hi, by rw [HRR.out, HN.out]⟩
  case round =>
    obtain ⟨j, rfl, hij, hj, hjc⟩ := hrel
    by_cases hjl : j < s.size
    · have hdj := drop_at s j hjl
      rw [hdj] at hjc
      have hjb : (j : Int) ≤ 10000 := by omega
      clear hdj
      generalize hgj : s[j] = d at *
      have c2 := fun W => rlow_any d W
      have c3 := fun W => rdigit_any d W
      cases hwd : wordB d with
      | true =>
        have HJ := Lib.hid (show j + 1 + runL wordB (s.data.toList.drop (j + 1)) = i + n by rw [runL_cons_yes hwd] at hjc; omega)
        clear hjc
        unfold wordB at hwd
        rcases ha : lowB d with _ | _
        · rcases hb : digB d with _ | _
          · rw [ha, hb] at hwd
            simp only [ha] at c2
            simp only [hb] at c3
            simp only [Bool.false_or, Bool.or_eq_true, decide_eq_true_eq] at hwd
            rcases hwd with h | h
            · have m45 : ((d.toNat : Int) == 45) = true := by simp; omega
              clear h ha hb
              go_wp2_with (first
              | (go_at_call 68; (with_reducible refine (c2 _).mono ?_); rintro e w2 ⟨rfl, rfl⟩)
              | (go_at_call 69; (with_reducible refine (c3 _).mono ?_); rintro e w3 ⟨rfl, rfl⟩))
              go_round
              case rel => exact ⟨j + 1, by go_num, by omega, by omega, HJ.out⟩
              case measure => simp [intOf]; omega
            · have m45 : ((d.toNat : Int) == 45) = false := by simp; omega
              have m95 : ((d.toNat : Int) == 95) = true := by simp; omega
              clear h ha hb
              go_wp2_with (first
              | (go_at_call 68; (with_reducible refine (c2 _).mono ?_); rintro e w2 ⟨rfl, rfl⟩)
              | (go_at_call 69; (with_reducible refine (c3 _).mono ?_); rintro e w3 ⟨rfl, rfl⟩))
              go_round
              case rel => exact ⟨j + 1, by go_num, by omega, by omega, HJ.out⟩
              case measure => simp [intOf]; omega
          · simp only [ha] at c2
            simp only [hb] at c3
            clear ha hb hwd
            go_wp2_with (first
              | (go_at_call 68; (with_reducible refine (c2 _).mono ?_); rintro e w2 ⟨rfl, rfl⟩)
              | (go_at_call 69; (with_reducible refine (c3 _).mono ?_); rintro e w3 ⟨rfl, rfl⟩))
            go_round
            case rel => exact ⟨j + 1, by go_num, by omega, by omega, HJ.out⟩
            case measure => simp [intOf]; omega
        · simp only [ha] at c2
          clear ha hwd
          go_wp2_with (first
              | (go_at_call 68; (with_reducible refine (c2 _).mono ?_); rintro e w2 ⟨rfl, rfl⟩)
              | (go_at_call 69; (with_reducible refine (c3 _).mono ?_); rintro e w3 ⟨rfl, rfl⟩))
          go_round
          case rel => exact ⟨j + 1, by go_num, by omega, by omega, HJ.out⟩
          case measure => simp [intOf]; omega
      | false =>
        rw [runL_cons_no hwd] at hjc
        obtain rfl : j = i + n := by omega
        clear hjc
        have hx := HX.out
        unfold wordB at hwd
        simp only [Bool.or_eq_false_iff, decide_eq_false_iff_not] at hwd
        obtain ⟨⟨⟨ha, hb⟩, h45⟩, h95⟩ := hwd
        simp only [ha] at c2
        simp only [hb] at c3
        have m45 : ((d.toNat : Int) == 45) = false := by simp; omega
        have m95 : ((d.toNat : Int) == 95) = false := by simp; omega
        clear ha hb h45 h95
        go_wp2_with (first
            | (go_at_call 68; (with_reducible refine (c2 _).mono ?_); rintro e w2 ⟨rfl, rfl⟩)
            | (go_at_call 69; (with_reducible refine (c3 _).mono ?_); rintro e w3 ⟨rfl, rfl⟩))
        have hB := Blk.new w 82 (tkC 0 ⟨#[]⟩ 0 0)
        obtain ⟨z0, z1, z2, z3, -⟩ := tk_cells (hB.tk4 (y0 := .int .i64 1) (y1 := .string tx) (y2 := .int .i64 0) (y3 := .int .i64 (i : Int)))
        exact bodyPost_ret (v := .tuple #[.agg (tkC 1 tx 0 i), .int .i64 ((i + n : Nat) : Int), .int .i64 0]) (by simp [results, Tryz.results43, go_sem]) rfl ⟨rfl, Gr.alloc _ _⟩
    · obtain rfl : j = s.size := by omega
      have e0 : s.data.toList.drop s.size = [] := List.drop_eq_nil_of_le (by rw [size_list]; exact Nat.le_refl _)
      have e1 : runL wordB ([] : List UInt8) = 0 := rfl
      rw [e0, e1] at hjc
      have hx := HX.out
      have hsn : s.size = i + n := by omega
      rw [← hsn] at hx
      have HSN := Lib.hid hsn
      clear hjc e0 e1 hsn
      go_wp2
      have hB := Blk.new w 82 (tkC 0 ⟨#[]⟩ 0 0)
      exact bodyPost_ret (v := .tuple #[.agg (tkC 1 tx 0 i), .int .i64 (s.size : Int), .int .i64 0]) (by simp [results, Tryz.results43, go_sem]) rfl ⟨by rw [HSN.out]; simp, Gr.alloc _ _⟩
end Go.Proofs.YtogpmihepfnoaaaGreatDoor
