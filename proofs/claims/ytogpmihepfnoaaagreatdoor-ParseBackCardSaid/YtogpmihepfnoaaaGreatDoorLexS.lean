/- Blanks and remarks: the reference's Skip. -/
import Derived.Test.YtogpmihepfnoaaaGreatDoorLexK
namespace Go.Proofs.YtogpmihepfnoaaaGreatDoor
open Go Go.RowKit

set_option maxRecDepth 100000 in
set_option maxHeartbeats 1000000 in
theorem skip_any (s : ByteArray) (i : Nat) (w : World) (hs : s.size ≤ 10000) (hi : i ≤ s.size) : Calls Tryz.prog 42 #[.string s, .int .i64 (i : Int)] w fun e w' => e = .returned (.int .i64 ((i + skipL (s.data.toList.drop i) : Nat) : Int)) ∧ w = w' := by
  go_enter Tryz.func42, Tryz.ntmps42
  go_wp2
  go_loop [1] (fun v1 => ∃ k : Nat, v1 = .int .i64 (k : Int) ∧ k ≤ s.size ∧ i + skipL (s.data.toList.drop i) = k + skipL (s.data.toList.drop k)) (fun v1 => s.size - (intOf v1).toNat)
  case atStart => exact ⟨i, rfl, hi, rfl⟩
  case round =>
    obtain ⟨k, rfl, hk, hc⟩ := hrel
    by_cases hlt : k < s.size
    · have hdr := drop_at s k hlt
      have HDD := Lib.hid (fun n => (by rw [List.drop_drop] : (s.data.toList.drop (k + 1)).drop n = s.data.toList.drop (k + 1 + n)))
      rw [hdr] at hc
      have hrl : (s.data.toList.drop (k + 1)).length = s.size - (k + 1) := by rw [List.length_drop, size_list]
      generalize hr : s.data.toList.drop (k + 1) = r at *
      have HR := Lib.hid hr
      have HC := Lib.hid hc
      clear hr hc hdr
      generalize hgk : s[k] = c at *
      have hkb : (k : Int) ≤ 10000 := by omega
      rcases (by omega : c.toNat = 32 ∨ c.toNat = 10 ∨ c.toNat = 9 ∨ c.toNat = 35 ∨ (c.toNat ≠ 32 ∧ c.toNat ≠ 10 ∧ c.toNat ≠ 9 ∧ c.toNat ≠ 35)) with hb | hb | hb | hb | hb
      · have hbl : blankB c = true := decide_eq_true (by omega)
        have hc2 := HC.out
        rw [skipL_blank hbl, ← HR.out] at hc2
        have HC2 := Lib.hid hc2
        clear hc2 hbl
        have t32 : ((c.toNat : Int) == 32) = true := by simp; omega
        have n32 : ((c.toNat : Int) != 32) = false := by simp; omega
        have t10 : ((c.toNat : Int) == 10) = false := by simp; omega
        have n10 : ((c.toNat : Int) != 10) = true := by simp; omega
        have t9 : ((c.toNat : Int) == 9) = false := by simp; omega
        have n9 : ((c.toNat : Int) != 9) = true := by simp; omega
        have t35 : ((c.toNat : Int) == 35) = false := by simp; omega
        have n35 : ((c.toNat : Int) != 35) = true := by simp; omega
        clear hb
        go_wp2
        go_round
        case rel => exact ⟨k + 1, by go_num, by omega, by rw [HC2.out]; omega⟩
        case measure => simp [intOf]; omega
      · have hbl : blankB c = true := decide_eq_true (by omega)
        have hc2 := HC.out
        rw [skipL_blank hbl, ← HR.out] at hc2
        have HC2 := Lib.hid hc2
        clear hc2 hbl
        have t32 : ((c.toNat : Int) == 32) = false := by simp; omega
        have n32 : ((c.toNat : Int) != 32) = true := by simp; omega
        have t10 : ((c.toNat : Int) == 10) = true := by simp; omega
        have n10 : ((c.toNat : Int) != 10) = false := by simp; omega
        have t9 : ((c.toNat : Int) == 9) = false := by simp; omega
        have n9 : ((c.toNat : Int) != 9) = true := by simp; omega
        have t35 : ((c.toNat : Int) == 35) = false := by simp; omega
        have n35 : ((c.toNat : Int) != 35) = true := by simp; omega
        clear hb
        go_wp2
        go_round
        case rel => exact ⟨k + 1, by go_num, by omega, by rw [HC2.out]; omega⟩
        case measure => simp [intOf]; omega
      · have hbl : blankB c = true := decide_eq_true (by omega)
        have hc2 := HC.out
        rw [skipL_blank hbl, ← HR.out] at hc2
        have HC2 := Lib.hid hc2
        clear hc2 hbl
        have t32 : ((c.toNat : Int) == 32) = false := by simp; omega
        have n32 : ((c.toNat : Int) != 32) = true := by simp; omega
        have t10 : ((c.toNat : Int) == 10) = false := by simp; omega
        have n10 : ((c.toNat : Int) != 10) = true := by simp; omega
        have t9 : ((c.toNat : Int) == 9) = true := by simp; omega
        have n9 : ((c.toNat : Int) != 9) = false := by simp; omega
        have t35 : ((c.toNat : Int) == 35) = false := by simp; omega
        have n35 : ((c.toNat : Int) != 35) = true := by simp; omega
        clear hb
        go_wp2
        go_round
        case rel => exact ⟨k + 1, by go_num, by omega, by rw [HC2.out]; omega⟩
        case measure => simp [intOf]; omega
      · have hbl : blankB c = false := decide_eq_false (by omega)
        have hn : nlB c = true := by
          unfold nlB
          rw [bne_iff_ne]
          intro h
          subst h
          exact absurd hb (by decide)
        have hc2 := HC.out
        rw [skipL_remark hbl hb, ← drop_run, HDD.out] at hc2
        have hrn := runL_le nlB r
        have hst : k + runL nlB (s.data.toList.drop k) = k + 1 + runL nlB r := by
          rw [drop_at s k hlt, HR.out, hgk, runL_cons_yes hn]; omega
        have HST := Lib.hid hst
        generalize hq : runL nlB r = q at *
        have HC2 := Lib.hid hc2
        clear hc2 hbl hn hst hq
        have t32 : ((c.toNat : Int) == 32) = false := by simp; omega
        have t10 : ((c.toNat : Int) == 10) = false := by simp; omega
        have t9 : ((c.toNat : Int) == 9) = false := by simp; omega
        have t35 : ((c.toNat : Int) == 35) = true := by simp; omega
        clear hb
        go_wp2
        go_loop [1] (fun v1 => ∃ j : Nat, v1 = .int .i64 (j : Int) ∧ j ≤ s.size ∧ j + runL nlB (s.data.toList.drop j) = k + 1 + q) (fun v1 => s.size - (intOf v1).toNat)
        case atStart => exact ⟨k, rfl, hk, HST.out⟩
        case round =>
          obtain ⟨j, rfl, hj, hjc⟩ := hrel
          by_cases hjl : j < s.size
          · have hdj := drop_at s j hjl
            rw [hdj] at hjc
            have hjb : (j : Int) ≤ 10000 := by omega
            generalize hgj : s[j] = d at *
            by_cases h10 : d.toNat = 10
            · have hn : nlB d = false := by
                have : d = 10 := UInt8.toNat_inj.mp h10
                rw [this]; rfl
              rw [runL_cons_no hn] at hjc
              have n10 : ((d.toNat : Int) != 10) = false := by simp; omega
              clear hn h10 hdj
              obtain rfl : j = k + 1 + q := by omega
              clear hjc
              go_wp2
              go_round
              case rel => exact ⟨k + 1 + q, rfl, hj, by have := HC2.out; omega⟩
              case measure => simp [intOf]; omega
            · have hn : nlB d = true := by
                unfold nlB
                rw [bne_iff_ne]
                intro h
                subst h
                exact h10 rfl
              rw [runL_cons_yes hn] at hjc
              have n10 : ((d.toNat : Int) != 10) = true := by simp; omega
              have HJC := Lib.hid hjc
              clear hn h10 hdj hjc
              go_wp2
              go_round
              case rel => exact ⟨j + 1, by go_num, by omega, by have := HJC.out; omega⟩
              case measure => simp [intOf]; omega
          · obtain rfl : j = s.size := by omega
            have e0 : s.data.toList.drop s.size = [] := List.drop_eq_nil_of_le (by rw [size_list]; exact Nat.le_refl _)
            have e1 : runL nlB ([] : List UInt8) = 0 := rfl
            rw [e0, e1] at hjc
            have HJC := Lib.hid hjc
            clear hjc e0 e1
            go_wp2
            go_round
            case rel => exact ⟨s.size, rfl, Nat.le_refl _, by have := HC2.out; have h2 := HJC.out; rw [Nat.add_zero] at h2; rw [h2]; omega⟩
            case measure => simp [intOf]; omega
      · have hbl : blankB c = false := decide_eq_false (by omega)
        have hc2 := HC.out
        rw [skipL_tok hbl hb.2.2.2] at hc2
        have HC2 := Lib.hid hc2
        clear hc2 hbl
        have t32 : ((c.toNat : Int) == 32) = false := by simp; omega
        have n32 : ((c.toNat : Int) != 32) = true := by simp; omega
        have t10 : ((c.toNat : Int) == 10) = false := by simp; omega
        have n10 : ((c.toNat : Int) != 10) = true := by simp; omega
        have t9 : ((c.toNat : Int) == 9) = false := by simp; omega
        have n9 : ((c.toNat : Int) != 9) = true := by simp; omega
        have t35 : ((c.toNat : Int) == 35) = false := by simp; omega
        have n35 : ((c.toNat : Int) != 35) = true := by simp; omega
        clear hb
        go_wp2
        go_ret
        exact ⟨ret_int (by have := HC2.out; omega), rfl⟩
    · obtain rfl : k = s.size := by omega
      have e0 : s.data.toList.drop s.size = [] := List.drop_eq_nil_of_le (by rw [size_list]; exact Nat.le_refl _)
      rw [e0, skipL_nil] at hc
      have HC := Lib.hid hc
      clear hc
      go_wp2
      go_ret
      exact ⟨ret_int (by have := HC.out; omega), rfl⟩
end Go.Proofs.YtogpmihepfnoaaaGreatDoor
