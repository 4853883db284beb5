/- A schedule's words: letters; how many bytes are such. -/
import Derived.Test.YtogpmihepfnoaaaGreatDoorLexP
import Derived.Test.YtogpmihepfnoaaaGreatDoorSpanP
namespace Go.Proofs.YtogpmihepfnoaaaGreatDoor
open Go Go.RowKit

theorem runL_cons_yes {p : UInt8 → Bool} {c : UInt8} {r : List UInt8} (h : p c = true) : runL p (c :: r) = runL p r + 1 := by
  unfold runL
  rw [List.takeWhile_cons, if_pos h, List.length_cons]
theorem runL_cons_no {p : UInt8 → Bool} {c : UInt8} {r : List UInt8} (h : p c = false) : runL p (c :: r) = 0 := by
  unfold runL
  rw [List.takeWhile_cons, h, if_neg (by simp)]
  rfl
theorem drop_at (s : ByteArray) (k : Nat) (h : k < s.size) : s.data.toList.drop k = s[k] :: s.data.toList.drop (k + 1) := List.drop_eq_getElem_cons (by simpa using h)
theorem size_list (s : ByteArray) : s.data.toList.length = s.size := by simp
theorem small_any (c : UInt8) (w : World) : Calls Tryz.prog 50 #[.int .u8 (c.toNat : Int)] w fun e w' => e = .returned (.bool (lowB c)) ∧ w = w' := by
  have hc := c.toNat_lt
  unfold lowB
  generalize c.toNat = n at *
  rcases (by omega : n < 97 ∨ 122 < n ∨ 97 ≤ n ∧ n ≤ 122) with h | h | ⟨h, h'⟩
  iterate 2
    · rw [decide_eq_false (by omega : ¬ (97 ≤ n ∧ n ≤ 122))]
      go_enter Tryz.func50, Tryz.ntmps50
      go_wp2
      all_goals (try (exfalso; omega))
      go_ret
      first | exact ⟨rfl, rfl⟩ | exact ⟨ret_bool (by simp; omega), rfl⟩
  · rw [decide_eq_true (by omega : 97 ≤ n ∧ n ≤ 122)]
    go_enter Tryz.func50, Tryz.ntmps50
    go_wp2
    all_goals (try (exfalso; omega))
    go_ret
    first | exact ⟨rfl, rfl⟩ | exact ⟨ret_bool (by simp; omega), rfl⟩
theorem digit_any (c : UInt8) (w : World) : Calls Tryz.prog 53 #[.int .u8 (c.toNat : Int)] w fun e w' => e = .returned (.bool (digB c)) ∧ w = w' := by
  have hc := c.toNat_lt
  unfold digB
  generalize c.toNat = n at *
  rcases (by omega : n < 48 ∨ 57 < n ∨ 48 ≤ n ∧ n ≤ 57) with h | h | ⟨h, h'⟩
  iterate 2
    · rw [decide_eq_false (by omega : ¬ (48 ≤ n ∧ n ≤ 57))]
      go_enter Tryz.func53, Tryz.ntmps53
      go_wp2
      all_goals (try (exfalso; omega))
      go_ret
      first | exact ⟨rfl, rfl⟩ | exact ⟨ret_bool (by simp; omega), rfl⟩
  · rw [decide_eq_true (by omega : 48 ≤ n ∧ n ≤ 57)]
    go_enter Tryz.func53, Tryz.ntmps53
    go_wp2
    all_goals (try (exfalso; omega))
    go_ret
    first | exact ⟨rfl, rfl⟩ | exact ⟨ret_bool (by simp; omega), rfl⟩
theorem rlow_any (c : UInt8) (w : World) : Calls Tryz.prog 68 #[.int .u8 (c.toNat : Int)] w fun e w' => e = .returned (.bool (lowB c)) ∧ w = w' := by
  have hc := c.toNat_lt
  unfold lowB
  generalize c.toNat = n at *
  rcases (by omega : n < 97 ∨ 122 < n ∨ 97 ≤ n ∧ n ≤ 122) with h | h | ⟨h, h'⟩
  iterate 2
    · rw [decide_eq_false (by omega : ¬ (97 ≤ n ∧ n ≤ 122))]
      go_enter Tryz.func68, Tryz.ntmps68
      go_wp2
      all_goals (try (exfalso; omega))
      go_ret
      first | exact ⟨rfl, rfl⟩ | exact ⟨ret_bool (by simp; omega), rfl⟩
  · rw [decide_eq_true (by omega : 97 ≤ n ∧ n ≤ 122)]
    go_enter Tryz.func68, Tryz.ntmps68
    go_wp2
    all_goals (try (exfalso; omega))
    go_ret
    first | exact ⟨rfl, rfl⟩ | exact ⟨ret_bool (by simp; omega), rfl⟩
theorem rdigit_any (c : UInt8) (w : World) : Calls Tryz.prog 69 #[.int .u8 (c.toNat : Int)] w fun e w' => e = .returned (.bool (digB c)) ∧ w = w' := by
  have hc := c.toNat_lt
  unfold digB
  generalize c.toNat = n at *
  rcases (by omega : n < 48 ∨ 57 < n ∨ 48 ≤ n ∧ n ≤ 57) with h | h | ⟨h, h'⟩
  iterate 2
    · rw [decide_eq_false (by omega : ¬ (48 ≤ n ∧ n ≤ 57))]
      go_enter Tryz.func69, Tryz.ntmps69
      go_wp2
      all_goals (try (exfalso; omega))
      go_ret
      first | exact ⟨rfl, rfl⟩ | exact ⟨ret_bool (by simp; omega), rfl⟩
  · rw [decide_eq_true (by omega : 48 ≤ n ∧ n ≤ 57)]
    go_enter Tryz.func69, Tryz.ntmps69
    go_wp2
    all_goals (try (exfalso; omega))
    go_ret
    first | exact ⟨rfl, rfl⟩ | exact ⟨ret_bool (by simp; omega), rfl⟩
theorem inword_any (c : UInt8) (w : World) : Calls Tryz.prog 51 #[.int .u8 (c.toNat : Int)] w fun e w' => e = .returned (.bool (wordB c)) ∧ w = w' := by
  have hc := c.toNat_lt
  have c1 := small_any c w
  have c2 := digit_any c w
  have e1 : decide (c.toNat = 45) = decide ((c.toNat : Int) = 45) := decide_eq_decide.2 (by omega)
  have e2 : decide (c.toNat = 95) = decide ((c.toNat : Int) = 95) := decide_eq_decide.2 (by omega)
  unfold wordB
  rw [e1, e2]
  clear e1 e2
  generalize lowB c = a at *
  generalize digB c = b at *
  generalize hm : (c.toNat : Int) = m at *
  have h0 : 0 ≤ m := by omega
  clear hm hc
  rcases (by omega : m = 45 ∨ m = 95 ∨ m ≠ 45 ∧ m ≠ 95) with h | h | ⟨h, h'⟩
  · subst h
    cases a <;> cases b
    all_goals
      go_enter Tryz.func51, Tryz.ntmps51
      go_wp2_with (first
        | (go_at_call 50; (with_reducible refine c1.mono ?_); rintro e w1 ⟨rfl, rfl⟩)
        | (go_at_call 53; (with_reducible refine c2.mono ?_); rintro e w2 ⟨rfl, rfl⟩))
      go_ret
      exact ⟨rfl, rfl⟩
  · subst h
    cases a <;> cases b
    all_goals
      go_enter Tryz.func51, Tryz.ntmps51
      go_wp2_with (first
        | (go_at_call 50; (with_reducible refine c1.mono ?_); rintro e w1 ⟨rfl, rfl⟩)
        | (go_at_call 53; (with_reducible refine c2.mono ?_); rintro e w2 ⟨rfl, rfl⟩))
      go_ret
      exact ⟨rfl, rfl⟩
  · rw [decide_eq_false h, decide_eq_false h']
    have h1 : (m == 45) = false := by simp; omega
    have h2 : (m == 95) = false := by simp; omega
    cases a <;> cases b
    all_goals
      go_enter Tryz.func51, Tryz.ntmps51
      go_wp2_with (first
        | (go_at_call 50; (with_reducible refine c1.mono ?_); rintro e w1 ⟨rfl, rfl⟩)
        | (go_at_call 53; (with_reducible refine c2.mono ?_); rintro e w2 ⟨rfl, rfl⟩))
      go_ret
      exact ⟨rfl, rfl⟩
theorem notnl_any (c : UInt8) (w : World) : Calls Tryz.prog 33 #[.int .u8 (c.toNat : Int)] w fun e w' => e = .returned (.bool (nlB c)) ∧ w = w' := by
  have hc := c.toNat_lt
  by_cases h : c.toNat = 10
  · have e : nlB c = false := by
      have : c = 10 := UInt8.toNat_inj.mp h
      rw [this]; rfl
    rw [e, h]
    go_enter Tryz.func33, Tryz.ntmps33
    go_wp2
    go_ret
    exact ⟨rfl, rfl⟩
  · have e : nlB c = true := by
      unfold nlB
      rw [bne_iff_ne]
      intro h2
      subst h2
      exact h rfl
    rw [e]
    have h1 : ((c.toNat : Int) == 10) = false := by simp; omega
    have h2 : ((c.toNat : Int) != 10) = true := by simp; omega
    clear h e
    go_enter Tryz.func33, Tryz.ntmps33
    go_wp2
    go_ret
    exact ⟨rfl, rfl⟩
set_option maxRecDepth 100000 in
theorem run_word (s : ByteArray) (w : World) (hs : s.size ≤ 140737488351232) : Calls Tryz.prog 32 #[.string s, .func (.func 51) #[] #[]] w fun e w' => e = .returned (.int .i64 (runL wordB s.data.toList)) ∧ w = w' := by
  go_enter Tryz.func32, Tryz.ntmps32
  go_wp2
  go_loop [5] (fun v5 => ∃ k : Nat, v5 = .int .i64 k ∧ k ≤ s.size ∧ runL wordB s.data.toList = k + runL wordB (s.data.toList.drop k)) (fun v5 => s.size - (intOf v5).toNat)
  case atStart => exact ⟨0, rfl, Nat.zero_le _, by simp⟩
  case round =>
    obtain ⟨k, rfl, hk, hr⟩ := hrel
    by_cases hlt : k < s.size
    · rw [drop_at s k hlt] at hr
      have cc := inword_any s[k] w
      rcases hp : wordB s[k] with _ | _
      · have HR := Lib.hid (hr.trans (by rw [runL_cons_no hp]; rfl : _ = k))
        simp only [hp] at cc
        clear hp hr
        go_wp2_with (go_at_call 51; (with_reducible refine cc.mono ?_); rintro e w1 ⟨rfl, rfl⟩)
        go_ret
        exact ⟨ret_int (by rw [HR.out]), rfl⟩
      · have HR := Lib.hid (hr.trans (by rw [runL_cons_yes hp]; omega : _ = (k + 1) + runL wordB (s.data.toList.drop (k + 1))))
        simp only [hp] at cc
        clear hp hr
        go_wp2_with (go_at_call 51; (with_reducible refine cc.mono ?_); rintro e w1 ⟨rfl, rfl⟩)
        go_round
        case rel => exact ⟨k + 1, by go_num, by omega, HR.out⟩
        case measure => simp [intOf]; omega
    · obtain rfl : k = s.size := by omega
      have e : s.data.toList.drop s.size = [] := List.drop_eq_nil_of_le (by rw [size_list]; exact Nat.le_refl _)
      rw [e] at hr
      have HR := Lib.hid (hr.trans (Nat.add_zero _))
      clear hr e
      go_wp2
      go_ret
      exact ⟨ret_int (by rw [HR.out]), rfl⟩
set_option maxRecDepth 100000 in
theorem run_dig (s : ByteArray) (w : World) (hs : s.size ≤ 140737488351232) : Calls Tryz.prog 32 #[.string s, .func (.func 53) #[] #[]] w fun e w' => e = .returned (.int .i64 (runL digB s.data.toList)) ∧ w = w' := by
  go_enter Tryz.func32, Tryz.ntmps32
  go_wp2
  go_loop [5] (fun v5 => ∃ k : Nat, v5 = .int .i64 k ∧ k ≤ s.size ∧ runL digB s.data.toList = k + runL digB (s.data.toList.drop k)) (fun v5 => s.size - (intOf v5).toNat)
  case atStart => exact ⟨0, rfl, Nat.zero_le _, by simp⟩
  case round =>
    obtain ⟨k, rfl, hk, hr⟩ := hrel
    by_cases hlt : k < s.size
    · rw [drop_at s k hlt] at hr
      have cc := digit_any s[k] w
      rcases hp : digB s[k] with _ | _
      · have HR := Lib.hid (hr.trans (by rw [runL_cons_no hp]; rfl : _ = k))
        simp only [hp] at cc
        clear hp hr
        go_wp2_with (go_at_call 53; (with_reducible refine cc.mono ?_); rintro e w1 ⟨rfl, rfl⟩)
        go_ret
        exact ⟨ret_int (by rw [HR.out]), rfl⟩
      · have HR := Lib.hid (hr.trans (by rw [runL_cons_yes hp]; omega : _ = (k + 1) + runL digB (s.data.toList.drop (k + 1))))
        simp only [hp] at cc
        clear hp hr
        go_wp2_with (go_at_call 53; (with_reducible refine cc.mono ?_); rintro e w1 ⟨rfl, rfl⟩)
        go_round
        case rel => exact ⟨k + 1, by go_num, by omega, HR.out⟩
        case measure => simp [intOf]; omega
    · obtain rfl : k = s.size := by omega
      have e : s.data.toList.drop s.size = [] := List.drop_eq_nil_of_le (by rw [size_list]; exact Nat.le_refl _)
      rw [e] at hr
      have HR := Lib.hid (hr.trans (Nat.add_zero _))
      clear hr e
      go_wp2
      go_ret
      exact ⟨ret_int (by rw [HR.out]), rfl⟩
set_option maxRecDepth 100000 in
theorem run_nl (s : ByteArray) (w : World) (hs : s.size ≤ 140737488351232) : Calls Tryz.prog 32 #[.string s, .func (.func 33) #[] #[]] w fun e w' => e = .returned (.int .i64 (runL nlB s.data.toList)) ∧ w = w' := by
  go_enter Tryz.func32, Tryz.ntmps32
  go_wp2
  go_loop [5] (fun v5 => ∃ k : Nat, v5 = .int .i64 k ∧ k ≤ s.size ∧ runL nlB s.data.toList = k + runL nlB (s.data.toList.drop k)) (fun v5 => s.size - (intOf v5).toNat)
  case atStart => exact ⟨0, rfl, Nat.zero_le _, by simp⟩
  case round =>
    obtain ⟨k, rfl, hk, hr⟩ := hrel
    by_cases hlt : k < s.size
    · rw [drop_at s k hlt] at hr
      have cc := notnl_any s[k] w
      rcases hp : nlB s[k] with _ | _
      · have HR := Lib.hid (hr.trans (by rw [runL_cons_no hp]; rfl : _ = k))
        simp only [hp] at cc
        clear hp hr
        go_wp2_with (go_at_call 33; (with_reducible refine cc.mono ?_); rintro e w1 ⟨rfl, rfl⟩)
        go_ret
        exact ⟨ret_int (by rw [HR.out]), rfl⟩
      · have HR := Lib.hid (hr.trans (by rw [runL_cons_yes hp]; omega : _ = (k + 1) + runL nlB (s.data.toList.drop (k + 1))))
        simp only [hp] at cc
        clear hp hr
        go_wp2_with (go_at_call 33; (with_reducible refine cc.mono ?_); rintro e w1 ⟨rfl, rfl⟩)
        go_round
        case rel => exact ⟨k + 1, by go_num, by omega, HR.out⟩
        case measure => simp [intOf]; omega
    · obtain rfl : k = s.size := by omega
      have e : s.data.toList.drop s.size = [] := List.drop_eq_nil_of_le (by rw [size_list]; exact Nat.le_refl _)
      rw [e] at hr
      have HR := Lib.hid (hr.trans (Nat.add_zero _))
      clear hr e
      go_wp2
      go_ret
      exact ⟨ret_int (by rw [HR.out]), rfl⟩
end Go.Proofs.YtogpmihepfnoaaaGreatDoor
