/- The walks of span.Text and span.Parse. -/
import Derived.Test.YtogpmihepfnoaaaDoorSpanW
import Derived.Test.YtogpmihepfnoaaaDoorShelf
import Derived.Lib.AppendIntMem
import Derived.LoopN
import Derived.Lib.SlBytesConst
namespace Go.Proofs.YtogpmihepfnoaaaDoor
open Go Go.RowKit

/-- The table of powers lies as it was laid. -/
def Pow (w : World) : Prop := Lib.TabIs Tryd.prog w "internal/strconv.uint64pow10" .u64 Lib.pow10Tab
theorem Pow.below {w w' : World} (h : Pow w) (hb : Below w.heap.size w w') : Pow w' := Lib.tabBelow_of_tabIs h w' hb
def str (l : List UInt8) : ByteArray := ⟨l.toArray⟩
theorem itoa_any (n : Int) (w : World) (hP : Pow w) (h0 : -9223372036854775808 ≤ n) (h1 : n ≤ 9223372036854775807) :
    Calls Tryd.prog 86 #[.int .i64 n] w fun e w' => e = .returned (.string (str (Lib.itoa n))) ∧ Below w.heap.size w w' :=
  (Tryd.strconv_Itoa n h0 h1 w hP).mono fun _ w' ⟨he, k, os, hw⟩ => ⟨he, by rw [hw]; exact Lib.below_grow _ w (Nat.le_refl _) k os⟩

/-- A span as a text. -/
def textD (n : Int) : List UInt8 :=
  if n < 0 ∨ 1048576 < n then [] else if n = 0 then [48, 100] else if n % 365 = 0 then Lib.itoa (n / 365) ++ [121] else if n % 30 = 0 then Lib.itoa (n / 30) ++ [109]
  else if n % 7 = 0 then Lib.itoa (n / 7) ++ [119] else Lib.itoa n ++ [100]

set_option maxHeartbeats 1000000 in
theorem text_no (n : Int) (w : World) (h : n < 0 ∨ 1048576 < n ∨ n = 0) : Calls Tryd.prog 67 #[.int .i64 n] w fun e w' => e = .returned (.string (str (textD n))) ∧ Below w.heap.size w w' := by
  have key : n < 0 ∨ (0 ≤ n ∧ 1048576 < n) ∨ n = 0 := by omega
  clear h
  rcases key with h | ⟨h, h'⟩ | rfl
  all_goals
    go_enter Tryd.func67, Tryd.ntmps67
    go_wp2
    go_ret
    refine ⟨?_, Below.refl _ _⟩
  · rw [textD, if_pos (by omega)]; rfl
  · rw [textD, if_pos (by omega)]; rfl
  · rfl

theorem str_app (a b : List UInt8) : str a ++ str b = str (a ++ b) := by
  apply ByteArray.ext
  simp [str]
theorem enc_y : Utf8.encode 121 = str [121] := by decide
theorem enc_m : Utf8.encode 109 = str [109] := by decide
theorem enc_w : Utf8.encode 119 = str [119] := by decide
theorem decDigits_le : ∀ (k u : Nat), u < 10 ^ (k + 1) → (Lib.decDigits u).length ≤ k + 1
  | 0, u, h => by rw [Lib.decDigits, dif_pos (by simpa using h)]; simp
  | k + 1, u, h => by
    rw [Lib.decDigits]
    split
    · simp
    · have := decDigits_le k (u / 10) (by rw [Nat.pow_succ] at h; omega)
      simp
      omega
theorem itoa_size (n : Int) (h0 : 0 ≤ n) (h1 : n ≤ 1099511627776) : (str (Lib.itoa n)).size ≤ 20 := by
  have h : (str (Lib.itoa n)).size = (Lib.decDigits n.toNat).length := by
    rw [Lib.itoa, if_neg (by omega)]
    rfl
  rw [h]
  exact Nat.le_trans (decDigits_le 19 _ (by omega)) (by omega)
theorem room_y (n : Int) (h0 : 0 ≤ n) (h1 : n ≤ 1099511627776) : ¬ 9223372036854775807 < (str (Lib.itoa n)).size + (Utf8.encode 121).size := by
  have := itoa_size n h0 h1
  rw [enc_y]
  show ¬ 9223372036854775807 < (str (Lib.itoa n)).size + 1
  omega
theorem room_m (n : Int) (h0 : 0 ≤ n) (h1 : n ≤ 1099511627776) : ¬ 9223372036854775807 < (str (Lib.itoa n)).size + (Utf8.encode 109).size := by
  have := itoa_size n h0 h1
  rw [enc_m]
  show ¬ 9223372036854775807 < (str (Lib.itoa n)).size + 1
  omega
theorem room_w (n : Int) (h0 : 0 ≤ n) (h1 : n ≤ 1099511627776) : ¬ 9223372036854775807 < (str (Lib.itoa n)).size + (Utf8.encode 119).size := by
  have := itoa_size n h0 h1
  rw [enc_w]
  show ¬ 9223372036854775807 < (str (Lib.itoa n)).size + 1
  omega
theorem room_d (n : Int) (h0 : 0 ≤ n) (h1 : n ≤ 1099511627776) : ¬ 9223372036854775807 < (str (Lib.itoa n)).size + (⟨#[100]⟩ : ByteArray).size := by
  have := itoa_size n h0 h1
  show ¬ 9223372036854775807 < (str (Lib.itoa n)).size + 1
  omega
theorem below_new {w w' : World} {o : Obj} (h : Below (w.alloc o).heap.size (w.alloc o) w') : Below w.heap.size w w' :=
  ((Below.refl _ _).alloc (Nat.le_refl _) _).trans (h.mono (by simp))

set_option maxRecDepth 100000 in
set_option maxHeartbeats 2000000 in
theorem text_y (n : Int) (w : World) (hP : Pow w) (h0 : 0 < n) (h1 : n ≤ 1048576) (a : n % 365 = 0) : Calls Tryd.prog 67 #[.int .i64 n] w fun e w' => e = .returned (.string (str (textD n))) ∧ Below w.heap.size w w' := by
  have ht : textD n = Lib.itoa (n / 365) ++ [121] := by rw [textD, if_neg (by omega), if_neg (by omega), if_pos a]
  have M0 : ((n % 365) == 0) = true := by simp [a]
  clear a
  have HT := Lib.hid ht
  clear ht
  have HP := Lib.hid hP
  clear hP
  have hn0 : (n == 0) = false := by simp; omega
  have kc := fun (w : World) (C : Array Value) (n c : Nat) => Lib.run_convert_bytes_const (P := Tryd.prog) w 72 5 C n c Tryd.underlying72 Tryd.underlying5
  have c0 : (w.alloc (.cells #[.int .u8 121, .int .u8 109, .int .u8 119] 5 (3, 4))).cell? ⟨w.heap.size, 0, none⟩ = some (.int .u8 121) := by rw [World.cell?_alloc_mark]; rfl
  have c1 : (w.alloc (.cells #[.int .u8 121, .int .u8 109, .int .u8 119] 5 (3, 4))).cell? ⟨w.heap.size, 1, none⟩ = some (.int .u8 109) := by rw [World.cell?_alloc_mark]; rfl
  have c2 : (w.alloc (.cells #[.int .u8 121, .int .u8 109, .int .u8 119] 5 (3, 4))).cell? ⟨w.heap.size, 2, none⟩ = some (.int .u8 119) := by rw [World.cell?_alloc_mark]; rfl
  have rm := room_y (n / 365) (by omega) (by omega)
  have u1 : unitD 121 = 365 := rfl
  have u2 : unitD 109 = 30 := rfl
  have u3 : unitD 119 = 7 := rfl
  go_enter Tryd.func67, Tryd.ntmps67
  go_wp2
  refine wp_loop_rounds 1 ?_
  rw [rounds_succ]
  go_wp2_with (first | (go_at_call 85; refine (unit_any _ _).mono ?_; rintro e w' ⟨rfl, rfl⟩) | (go_at_call 86; refine (itoa_any _ _ (HP.out.below (((Below.refl _ _).alloc (Nat.le_refl _) _))) (by omega) (by omega)).mono ?_; rintro e w' ⟨rfl, hb⟩))
  go_ret
  refine ⟨ret_str ?_, below_new hb⟩
  rw [HT.out, ← str_app, ← enc_y]
set_option maxRecDepth 100000 in
set_option maxHeartbeats 2000000 in
theorem text_m (n : Int) (w : World) (hP : Pow w) (h0 : 0 < n) (h1 : n ≤ 1048576) (a : ¬ n % 365 = 0) (b : n % 30 = 0) : Calls Tryd.prog 67 #[.int .i64 n] w fun e w' => e = .returned (.string (str (textD n))) ∧ Below w.heap.size w w' := by
  have ht : textD n = Lib.itoa (n / 30) ++ [109] := by rw [textD, if_neg (by omega), if_neg (by omega), if_neg a, if_pos b]
  have M0 : ((n % 365) == 0) = false := by simp [a]
  have M1 : ((n % 30) == 0) = true := by simp [b]
  clear a b
  have HT := Lib.hid ht
  clear ht
  have HP := Lib.hid hP
  clear hP
  have hn0 : (n == 0) = false := by simp; omega
  have kc := fun (w : World) (C : Array Value) (n c : Nat) => Lib.run_convert_bytes_const (P := Tryd.prog) w 72 5 C n c Tryd.underlying72 Tryd.underlying5
  have c0 : (w.alloc (.cells #[.int .u8 121, .int .u8 109, .int .u8 119] 5 (3, 4))).cell? ⟨w.heap.size, 0, none⟩ = some (.int .u8 121) := by rw [World.cell?_alloc_mark]; rfl
  have c1 : (w.alloc (.cells #[.int .u8 121, .int .u8 109, .int .u8 119] 5 (3, 4))).cell? ⟨w.heap.size, 1, none⟩ = some (.int .u8 109) := by rw [World.cell?_alloc_mark]; rfl
  have c2 : (w.alloc (.cells #[.int .u8 121, .int .u8 109, .int .u8 119] 5 (3, 4))).cell? ⟨w.heap.size, 2, none⟩ = some (.int .u8 119) := by rw [World.cell?_alloc_mark]; rfl
  have rm := room_m (n / 30) (by omega) (by omega)
  have u1 : unitD 121 = 365 := rfl
  have u2 : unitD 109 = 30 := rfl
  have u3 : unitD 119 = 7 := rfl
  go_enter Tryd.func67, Tryd.ntmps67
  go_wp2
  refine wp_loop_rounds 2 ?_
  rw [rounds_succ]
  go_wp2_with (first | (go_at_call 85; refine (unit_any _ _).mono ?_; rintro e w' ⟨rfl, rfl⟩) | (go_at_call 86; refine (itoa_any _ _ (HP.out.below (((Below.refl _ _).alloc (Nat.le_refl _) _))) (by omega) (by omega)).mono ?_; rintro e w' ⟨rfl, hb⟩))
  rw [rounds_succ]
  go_wp2_with (first | (go_at_call 85; refine (unit_any _ _).mono ?_; rintro e w' ⟨rfl, rfl⟩) | (go_at_call 86; refine (itoa_any _ _ (HP.out.below (((Below.refl _ _).alloc (Nat.le_refl _) _))) (by omega) (by omega)).mono ?_; rintro e w' ⟨rfl, hb⟩))
  go_ret
  refine ⟨ret_str ?_, below_new hb⟩
  rw [HT.out, ← str_app, ← enc_m]
set_option maxRecDepth 100000 in
set_option maxHeartbeats 2000000 in
theorem text_w (n : Int) (w : World) (hP : Pow w) (h0 : 0 < n) (h1 : n ≤ 1048576) (a : ¬ n % 365 = 0) (b : ¬ n % 30 = 0) (c : n % 7 = 0) : Calls Tryd.prog 67 #[.int .i64 n] w fun e w' => e = .returned (.string (str (textD n))) ∧ Below w.heap.size w w' := by
  have ht : textD n = Lib.itoa (n / 7) ++ [119] := by rw [textD, if_neg (by omega), if_neg (by omega), if_neg a, if_neg b, if_pos c]
  have M0 : ((n % 365) == 0) = false := by simp [a]
  have M1 : ((n % 30) == 0) = false := by simp [b]
  have M2 : ((n % 7) == 0) = true := by simp [c]
  clear a b c
  have HT := Lib.hid ht
  clear ht
  have HP := Lib.hid hP
  clear hP
  have hn0 : (n == 0) = false := by simp; omega
  have kc := fun (w : World) (C : Array Value) (n c : Nat) => Lib.run_convert_bytes_const (P := Tryd.prog) w 72 5 C n c Tryd.underlying72 Tryd.underlying5
  have c0 : (w.alloc (.cells #[.int .u8 121, .int .u8 109, .int .u8 119] 5 (3, 4))).cell? ⟨w.heap.size, 0, none⟩ = some (.int .u8 121) := by rw [World.cell?_alloc_mark]; rfl
  have c1 : (w.alloc (.cells #[.int .u8 121, .int .u8 109, .int .u8 119] 5 (3, 4))).cell? ⟨w.heap.size, 1, none⟩ = some (.int .u8 109) := by rw [World.cell?_alloc_mark]; rfl
  have c2 : (w.alloc (.cells #[.int .u8 121, .int .u8 109, .int .u8 119] 5 (3, 4))).cell? ⟨w.heap.size, 2, none⟩ = some (.int .u8 119) := by rw [World.cell?_alloc_mark]; rfl
  have rm := room_w (n / 7) (by omega) (by omega)
  have u1 : unitD 121 = 365 := rfl
  have u2 : unitD 109 = 30 := rfl
  have u3 : unitD 119 = 7 := rfl
  go_enter Tryd.func67, Tryd.ntmps67
  go_wp2
  refine wp_loop_rounds 3 ?_
  rw [rounds_succ]
  go_wp2_with (first | (go_at_call 85; refine (unit_any _ _).mono ?_; rintro e w' ⟨rfl, rfl⟩) | (go_at_call 86; refine (itoa_any _ _ (HP.out.below (((Below.refl _ _).alloc (Nat.le_refl _) _))) (by omega) (by omega)).mono ?_; rintro e w' ⟨rfl, hb⟩))
  rw [rounds_succ]
  go_wp2_with (first | (go_at_call 85; refine (unit_any _ _).mono ?_; rintro e w' ⟨rfl, rfl⟩) | (go_at_call 86; refine (itoa_any _ _ (HP.out.below (((Below.refl _ _).alloc (Nat.le_refl _) _))) (by omega) (by omega)).mono ?_; rintro e w' ⟨rfl, hb⟩))
  rw [rounds_succ]
  go_wp2_with (first | (go_at_call 85; refine (unit_any _ _).mono ?_; rintro e w' ⟨rfl, rfl⟩) | (go_at_call 86; refine (itoa_any _ _ (HP.out.below (((Below.refl _ _).alloc (Nat.le_refl _) _))) (by omega) (by omega)).mono ?_; rintro e w' ⟨rfl, hb⟩))
  go_ret
  refine ⟨ret_str ?_, below_new hb⟩
  rw [HT.out, ← str_app, ← enc_w]
set_option maxRecDepth 100000 in
set_option maxHeartbeats 2000000 in
theorem text_d (n : Int) (w : World) (hP : Pow w) (h0 : 0 < n) (h1 : n ≤ 1048576) (a : ¬ n % 365 = 0) (b : ¬ n % 30 = 0) (c : ¬ n % 7 = 0) : Calls Tryd.prog 67 #[.int .i64 n] w fun e w' => e = .returned (.string (str (textD n))) ∧ Below w.heap.size w w' := by
  have ht : textD n = Lib.itoa n ++ [100] := by rw [textD, if_neg (by omega), if_neg (by omega), if_neg a, if_neg b, if_neg c]
  have M0 : ((n % 365) == 0) = false := by simp [a]
  have M1 : ((n % 30) == 0) = false := by simp [b]
  have M2 : ((n % 7) == 0) = false := by simp [c]
  clear a b c
  have HT := Lib.hid ht
  clear ht
  have HP := Lib.hid hP
  clear hP
  have hn0 : (n == 0) = false := by simp; omega
  have kc := fun (w : World) (C : Array Value) (n c : Nat) => Lib.run_convert_bytes_const (P := Tryd.prog) w 72 5 C n c Tryd.underlying72 Tryd.underlying5
  have c0 : (w.alloc (.cells #[.int .u8 121, .int .u8 109, .int .u8 119] 5 (3, 4))).cell? ⟨w.heap.size, 0, none⟩ = some (.int .u8 121) := by rw [World.cell?_alloc_mark]; rfl
  have c1 : (w.alloc (.cells #[.int .u8 121, .int .u8 109, .int .u8 119] 5 (3, 4))).cell? ⟨w.heap.size, 1, none⟩ = some (.int .u8 109) := by rw [World.cell?_alloc_mark]; rfl
  have c2 : (w.alloc (.cells #[.int .u8 121, .int .u8 109, .int .u8 119] 5 (3, 4))).cell? ⟨w.heap.size, 2, none⟩ = some (.int .u8 119) := by rw [World.cell?_alloc_mark]; rfl
  have rm := room_d n (by omega) (by omega)
  have u1 : unitD 121 = 365 := rfl
  have u2 : unitD 109 = 30 := rfl
  have u3 : unitD 119 = 7 := rfl
  go_enter Tryd.func67, Tryd.ntmps67
  go_wp2
  refine wp_loop_rounds 4 ?_
  rw [rounds_succ]
  go_wp2_with (first | (go_at_call 85; refine (unit_any _ _).mono ?_; rintro e w' ⟨rfl, rfl⟩) | (go_at_call 86; refine (itoa_any _ _ (HP.out.below (((Below.refl _ _).alloc (Nat.le_refl _) _))) (by omega) (by omega)).mono ?_; rintro e w' ⟨rfl, hb⟩))
  rw [rounds_succ]
  go_wp2_with (first | (go_at_call 85; refine (unit_any _ _).mono ?_; rintro e w' ⟨rfl, rfl⟩) | (go_at_call 86; refine (itoa_any _ _ (HP.out.below (((Below.refl _ _).alloc (Nat.le_refl _) _))) (by omega) (by omega)).mono ?_; rintro e w' ⟨rfl, hb⟩))
  rw [rounds_succ]
  go_wp2_with (first | (go_at_call 85; refine (unit_any _ _).mono ?_; rintro e w' ⟨rfl, rfl⟩) | (go_at_call 86; refine (itoa_any _ _ (HP.out.below (((Below.refl _ _).alloc (Nat.le_refl _) _))) (by omega) (by omega)).mono ?_; rintro e w' ⟨rfl, hb⟩))
  rw [rounds_succ]
  go_wp2_with (first | (go_at_call 85; refine (unit_any _ _).mono ?_; rintro e w' ⟨rfl, rfl⟩) | (go_at_call 86; refine (itoa_any _ _ (HP.out.below (((Below.refl _ _).alloc (Nat.le_refl _) _))) (by omega) (by omega)).mono ?_; rintro e w' ⟨rfl, hb⟩))
  go_ret
  refine ⟨ret_str ?_, below_new hb⟩
  rw [HT.out, ← str_app]
  rfl
theorem text_any (n : Int) (w : World) (hP : Pow w) : Calls Tryd.prog 67 #[.int .i64 n] w fun e w' => e = .returned (.string (str (textD n))) ∧ Below w.heap.size w w' := by
  by_cases h : n < 0 ∨ 1048576 < n ∨ n = 0
  · exact text_no n w h
  · by_cases a : n % 365 = 0
    · exact text_y n w hP (by omega) (by omega) a
    · by_cases b : n % 30 = 0
      · exact text_m n w hP (by omega) (by omega) a b
      · by_cases c : n % 7 = 0
        · exact text_w n w hP (by omega) (by omega) a b c
        · exact text_d n w hP (by omega) (by omega) a b c
end Go.Proofs.YtogpmihepfnoaaaDoor
