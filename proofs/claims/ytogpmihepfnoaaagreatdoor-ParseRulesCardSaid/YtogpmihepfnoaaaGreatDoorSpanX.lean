/- The walk of the reference's Text of layer 15. -/
import Derived.Test.YtogpmihepfnoaaaGreatDoorSpanR
namespace Go.Proofs.YtogpmihepfnoaaaGreatDoor
open Go Go.RowKit Go.Sort

theorem quiet_same {P : Program} {f : FuncId} {args : Array Value} {w : World} {v : Value} (h : Calls P f args w fun e w' => e = .returned v ∧ w = w') : Calls P f args w fun e w' => e = .returned v ∧ ∃ n, w' = w.drewN n :=
  h.mono fun _ _ ⟨he, hw⟩ => ⟨he, 0, by rw [← hw]; rfl⟩
theorem quiet_samen {P : Program} {f : FuncId} {args : Array Value} {w : World} {n : Nat} {v : Value} (h : Calls P f args (w.drewN n) fun e w' => e = .returned v ∧ w.drewN n = w') : Calls P f args (w.drewN n) fun e w'' => e = .returned v ∧ ∃ m, w'' = w.drewN m :=
  h.mono fun _ _ ⟨he, hm⟩ => ⟨he, n, hm.symm⟩

set_option maxRecDepth 100000 in
set_option maxHeartbeats 1000000 in
theorem reftext_no (n : Int) (w : World) (h : n < 0 ∨ 1048576 < n ∨ n = 0) : Calls Tryz.prog 31 #[.int .i64 n] w fun e w' => e = .returned (.string (str (textD n))) ∧ Below w.heap.size w w' := by
  have key : n < 0 ∨ (0 ≤ n ∧ 1048576 < n) ∨ n = 0 := by omega
  clear h
  rcases key with h | ⟨h, h'⟩ | rfl
  · go_enter Tryz.func31, Tryz.ntmps31
    go_wp2
    go_ret
    refine ⟨?_, Below.refl _ _⟩
    rw [textD, if_pos (by omega)]; rfl
  · go_enter Tryz.func31, Tryz.ntmps31
    go_wp2
    go_ret
    refine ⟨?_, Below.refl _ _⟩
    rw [textD, if_pos (by omega)]; rfl
  · go_enter Tryz.func31, Tryz.ntmps31
    go_wp2
    refine wp_loop_rounds 1 ?_
    rw [rounds_succ]
    go_wp2
    go_ret
    exact ⟨rfl, Below.refl _ _⟩
set_option maxRecDepth 100000 in
set_option maxHeartbeats 2000000 in
theorem reftext_y (n : Int) (w : World) (h0 : 0 < n) (h1 : n ≤ 1048576) (a : n % 365 = 0) : Calls Tryz.prog 31 #[.int .i64 n] w fun e w' => e = .returned (.string (str (textD n))) ∧ Below w.heap.size w w' := by
  have ht : textD n = Lib.itoa (n / 365) ++ [121] := by rw [textD, if_neg (by omega), if_neg (by omega), if_pos a]
  have M0 : ((n % 365) == 0) = true := by simp [a]
  clear a
  have HT := Lib.hid ht
  clear ht
  have b0 : ((⟨#[121, 109, 119, 100]⟩ : ByteArray)[0]'(by decide)) = 121 := rfl
  have b1 : ((⟨#[121, 109, 119, 100]⟩ : ByteArray)[1]'(by decide)) = 109 := rfl
  have b2 : ((⟨#[121, 109, 119, 100]⟩ : ByteArray)[2]'(by decide)) = 119 := rfl
  have b3 : ((⟨#[121, 109, 119, 100]⟩ : ByteArray)[3]'(by decide)) = 100 := rfl
  have u1 : unitD 121 = 365 := rfl
  have u2 : unitD 109 = 30 := rfl
  have u3 : unitD 119 = 7 := rfl
  have u4 : unitD 100 = 1 := rfl
  have rm : ¬ 9223372036854775807 < (str (Lib.itoa (n / 365))).size + 1 := by have := itoa_size (n / 365) (by omega) (by omega); omega
  go_enter Tryz.func31, Tryz.ntmps31
  go_wp2
  refine wp_loop_rounds 1 ?_
  rw [rounds_succ]
  go_wp2_with (first | (go_at_call 48; refine (refunit_any _ _).mono ?_; rintro e w' ⟨rfl, rfl⟩))
  go_quiet ((first | (go_at_call 48; exact quiet_samen (refunit_any _ _)) | (go_at_call 49; exact quiet_samen (Tell_any _ _ (by omega) (by omega)))))
  go_wp2
  go_ret
  refine ⟨ret_str ?_, below_drewNr (Below.refl _ _) _⟩
  rw [HT.out, ← str_app]
  rfl
set_option maxRecDepth 100000 in
set_option maxHeartbeats 2000000 in
theorem reftext_m (n : Int) (w : World) (h0 : 0 < n) (h1 : n ≤ 1048576) (a : ¬ n % 365 = 0) (b : n % 30 = 0) : Calls Tryz.prog 31 #[.int .i64 n] w fun e w' => e = .returned (.string (str (textD n))) ∧ Below w.heap.size w w' := by
  have ht : textD n = Lib.itoa (n / 30) ++ [109] := by rw [textD, if_neg (by omega), if_neg (by omega), if_neg a, if_pos b]
  have M0 : ((n % 365) == 0) = false := by simp [a]
  have M1 : ((n % 30) == 0) = true := by simp [b]
  clear a b
  have HT := Lib.hid ht
  clear ht
  have b0 : ((⟨#[121, 109, 119, 100]⟩ : ByteArray)[0]'(by decide)) = 121 := rfl
  have b1 : ((⟨#[121, 109, 119, 100]⟩ : ByteArray)[1]'(by decide)) = 109 := rfl
  have b2 : ((⟨#[121, 109, 119, 100]⟩ : ByteArray)[2]'(by decide)) = 119 := rfl
  have b3 : ((⟨#[121, 109, 119, 100]⟩ : ByteArray)[3]'(by decide)) = 100 := rfl
  have u1 : unitD 121 = 365 := rfl
  have u2 : unitD 109 = 30 := rfl
  have u3 : unitD 119 = 7 := rfl
  have u4 : unitD 100 = 1 := rfl
  have rm : ¬ 9223372036854775807 < (str (Lib.itoa (n / 30))).size + 1 := by have := itoa_size (n / 30) (by omega) (by omega); omega
  go_enter Tryz.func31, Tryz.ntmps31
  go_wp2
  refine wp_loop_rounds 2 ?_
  rw [rounds_succ]
  go_wp2_with (first | (go_at_call 48; refine (refunit_any _ _).mono ?_; rintro e w' ⟨rfl, rfl⟩))
  rw [rounds_succ]
  go_wp2_with (first | (go_at_call 48; refine (refunit_any _ _).mono ?_; rintro e w' ⟨rfl, rfl⟩))
  go_quiet ((first | (go_at_call 48; exact quiet_samen (refunit_any _ _)) | (go_at_call 49; exact quiet_samen (Tell_any _ _ (by omega) (by omega)))))
  go_wp2
  go_ret
  refine ⟨ret_str ?_, below_drewNr (Below.refl _ _) _⟩
  rw [HT.out, ← str_app]
  rfl
set_option maxRecDepth 100000 in
set_option maxHeartbeats 2000000 in
theorem reftext_w (n : Int) (w : World) (h0 : 0 < n) (h1 : n ≤ 1048576) (a : ¬ n % 365 = 0) (b : ¬ n % 30 = 0) (c : n % 7 = 0) : Calls Tryz.prog 31 #[.int .i64 n] w fun e w' => e = .returned (.string (str (textD n))) ∧ Below w.heap.size w w' := by
  have ht : textD n = Lib.itoa (n / 7) ++ [119] := by rw [textD, if_neg (by omega), if_neg (by omega), if_neg a, if_neg b, if_pos c]
  have M0 : ((n % 365) == 0) = false := by simp [a]
  have M1 : ((n % 30) == 0) = false := by simp [b]
  have M2 : ((n % 7) == 0) = true := by simp [c]
  clear a b c
  have HT := Lib.hid ht
  clear ht
  have b0 : ((⟨#[121, 109, 119, 100]⟩ : ByteArray)[0]'(by decide)) = 121 := rfl
  have b1 : ((⟨#[121, 109, 119, 100]⟩ : ByteArray)[1]'(by decide)) = 109 := rfl
  have b2 : ((⟨#[121, 109, 119, 100]⟩ : ByteArray)[2]'(by decide)) = 119 := rfl
  have b3 : ((⟨#[121, 109, 119, 100]⟩ : ByteArray)[3]'(by decide)) = 100 := rfl
  have u1 : unitD 121 = 365 := rfl
  have u2 : unitD 109 = 30 := rfl
  have u3 : unitD 119 = 7 := rfl
  have u4 : unitD 100 = 1 := rfl
  have rm : ¬ 9223372036854775807 < (str (Lib.itoa (n / 7))).size + 1 := by have := itoa_size (n / 7) (by omega) (by omega); omega
  go_enter Tryz.func31, Tryz.ntmps31
  go_wp2
  refine wp_loop_rounds 3 ?_
  rw [rounds_succ]
  go_wp2_with (first | (go_at_call 48; refine (refunit_any _ _).mono ?_; rintro e w' ⟨rfl, rfl⟩))
  rw [rounds_succ]
  go_wp2_with (first | (go_at_call 48; refine (refunit_any _ _).mono ?_; rintro e w' ⟨rfl, rfl⟩))
  rw [rounds_succ]
  go_wp2_with (first | (go_at_call 48; refine (refunit_any _ _).mono ?_; rintro e w' ⟨rfl, rfl⟩))
  go_quiet ((first | (go_at_call 48; exact quiet_samen (refunit_any _ _)) | (go_at_call 49; exact quiet_samen (Tell_any _ _ (by omega) (by omega)))))
  go_wp2
  go_ret
  refine ⟨ret_str ?_, below_drewNr (Below.refl _ _) _⟩
  rw [HT.out, ← str_app]
  rfl
set_option maxRecDepth 100000 in
set_option maxHeartbeats 2000000 in
theorem reftext_d (n : Int) (w : World) (h0 : 0 < n) (h1 : n ≤ 1048576) (a : ¬ n % 365 = 0) (b : ¬ n % 30 = 0) (c : ¬ n % 7 = 0) : Calls Tryz.prog 31 #[.int .i64 n] w fun e w' => e = .returned (.string (str (textD n))) ∧ Below w.heap.size w w' := by
  have ht : textD n = Lib.itoa n ++ [100] := by rw [textD, if_neg (by omega), if_neg (by omega), if_neg a, if_neg b, if_neg c]
  have M0 : ((n % 365) == 0) = false := by simp [a]
  have M1 : ((n % 30) == 0) = false := by simp [b]
  have M2 : ((n % 7) == 0) = false := by simp [c]
  clear a b c
  have HT := Lib.hid ht
  clear ht
  have b0 : ((⟨#[121, 109, 119, 100]⟩ : ByteArray)[0]'(by decide)) = 121 := rfl
  have b1 : ((⟨#[121, 109, 119, 100]⟩ : ByteArray)[1]'(by decide)) = 109 := rfl
  have b2 : ((⟨#[121, 109, 119, 100]⟩ : ByteArray)[2]'(by decide)) = 119 := rfl
  have b3 : ((⟨#[121, 109, 119, 100]⟩ : ByteArray)[3]'(by decide)) = 100 := rfl
  have u1 : unitD 121 = 365 := rfl
  have u2 : unitD 109 = 30 := rfl
  have u3 : unitD 119 = 7 := rfl
  have u4 : unitD 100 = 1 := rfl
  have rm : ¬ 9223372036854775807 < (str (Lib.itoa (n))).size + 1 := by have := itoa_size (n) (by omega) (by omega); omega
  go_enter Tryz.func31, Tryz.ntmps31
  go_wp2
  refine wp_loop_rounds 4 ?_
  rw [rounds_succ]
  go_wp2_with (first | (go_at_call 48; refine (refunit_any _ _).mono ?_; rintro e w' ⟨rfl, rfl⟩))
  rw [rounds_succ]
  go_wp2_with (first | (go_at_call 48; refine (refunit_any _ _).mono ?_; rintro e w' ⟨rfl, rfl⟩))
  rw [rounds_succ]
  go_wp2_with (first | (go_at_call 48; refine (refunit_any _ _).mono ?_; rintro e w' ⟨rfl, rfl⟩))
  rw [rounds_succ]
  go_wp2_with (first | (go_at_call 48; refine (refunit_any _ _).mono ?_; rintro e w' ⟨rfl, rfl⟩))
  go_quiet ((first | (go_at_call 48; exact quiet_samen (refunit_any _ _)) | (go_at_call 49; exact quiet_samen (Tell_any _ _ (by omega) (by omega)))))
  go_wp2
  go_ret
  refine ⟨ret_str ?_, below_drewNr (Below.refl _ _) _⟩
  rw [HT.out, ← str_app]
  rfl
theorem reftext_any (n : Int) (w : World) : Calls Tryz.prog 31 #[.int .i64 n] w fun e w' => e = .returned (.string (str (textD n))) ∧ Below w.heap.size w w' := by
  by_cases h : n < 0 ∨ 1048576 < n ∨ n = 0
  · exact reftext_no n w h
  · by_cases a : n % 365 = 0
    · exact reftext_y n w (by omega) (by omega) a
    · by_cases b : n % 30 = 0
      · exact reftext_m n w (by omega) (by omega) a b
      · by_cases c : n % 7 = 0
        · exact reftext_w n w (by omega) (by omega) a b c
        · exact reftext_d n w (by omega) (by omega) a b c
end Go.Proofs.YtogpmihepfnoaaaGreatDoor
