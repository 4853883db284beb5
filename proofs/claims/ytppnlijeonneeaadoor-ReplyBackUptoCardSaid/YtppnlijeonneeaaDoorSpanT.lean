/- The walks of span.Text and span.Parse. -/
import Derived.Test.YtppnlijeonneeaaDoorSpanW
import Derived.Test.YtppnlijeonneeaaDoorShelf
import Derived.Lib.AppendIntMem
import Derived.LoopN
import Derived.Lib.SlBytesConst
namespace Go.Proofs.YtppnlijeonneeaaDoor
open Go Go.RowKit

/-- The table of powers lies as it was laid. -/
def Pow (w : World) : Prop := Lib.TabIs Tryd.prog w "internal/strconv.uint64pow10" .u64 Lib.pow10Tab
theorem Pow.below {w w' : World} (h : Pow w) (hb : Below w.heap.size w w') : Pow w' := Lib.tabBelow_of_tabIs h w' hb
def str (l : List UInt8) : ByteArray := ⟨l.toArray⟩
theorem itoa_any (n : Int) (w : World) (hP : Pow w) (h0 : -9223372036854775808 ≤ n) (h1 : n ≤ 9223372036854775807) :
    Calls Tryd.prog 30 #[.int .i64 n] w fun e w' => e = .returned (.string (str (Lib.itoa n))) ∧ Below w.heap.size w w' :=
  (Tryd.strconv_Itoa n h0 h1 w hP).mono fun _ w' ⟨he, k, os, hw⟩ => ⟨he, by rw [hw]; exact Lib.below_grow _ w (Nat.le_refl _) k os⟩

/-- A span as a text. -/
def textD (n : Int) : List UInt8 :=
  if n < 0 ∨ 1048576 < n then [] else if n = 0 then [48, 100] else if n % 365 = 0 then Lib.itoa (n / 365) ++ [121] else if n % 30 = 0 then Lib.itoa (n / 30) ++ [109]
  else if n % 7 = 0 then Lib.itoa (n / 7) ++ [119] else Lib.itoa n ++ [100]

theorem str_app (a b : List UInt8) : str a ++ str b = str (a ++ b) := by
  apply ByteArray.ext
  simp [str]
theorem enc_y : Utf8.encode 121 = str [121] := by decide
theorem enc_m : Utf8.encode 109 = str [109] := by decide
theorem enc_w : Utf8.encode 119 = str [119] := by decide
theorem decDigits_le : ∀ (k u : Nat), u < 10 ^ (k + 1) → (Lib.decDigits u).length ≤ k + 1
  | 0, u, h => by rw [Lib.decDigits, dif_pos (by simpa using h)]; simp
  | k + 1, u, h => by
    rw [Lib.decDigits]
    split
    · simp
    · have := decDigits_le k (u / 10) (by rw [Nat.pow_succ] at h; omega)
      simp
      omega
theorem itoa_size (n : Int) (h0 : 0 ≤ n) (h1 : n ≤ 1099511627776) : (str (Lib.itoa n)).size ≤ 20 := by
  have h : (str (Lib.itoa n)).size = (Lib.decDigits n.toNat).length := by
    rw [Lib.itoa, if_neg (by omega)]
    rfl
  rw [h]
  exact Nat.le_trans (decDigits_le 19 _ (by omega)) (by omega)
theorem room_y (n : Int) (h0 : 0 ≤ n) (h1 : n ≤ 1099511627776) : ¬ 9223372036854775807 < (str (Lib.itoa n)).size + (Utf8.encode 121).size := by
  have := itoa_size n h0 h1
  rw [enc_y]
  show ¬ 9223372036854775807 < (str (Lib.itoa n)).size + 1
  omega
theorem room_m (n : Int) (h0 : 0 ≤ n) (h1 : n ≤ 1099511627776) : ¬ 9223372036854775807 < (str (Lib.itoa n)).size + (Utf8.encode 109).size := by
  have := itoa_size n h0 h1
  rw [enc_m]
  show ¬ 9223372036854775807 < (str (Lib.itoa n)).size + 1
  omega
theorem room_w (n : Int) (h0 : 0 ≤ n) (h1 : n ≤ 1099511627776) : ¬ 9223372036854775807 < (str (Lib.itoa n)).size + (Utf8.encode 119).size := by
  have := itoa_size n h0 h1
  rw [enc_w]
  show ¬ 9223372036854775807 < (str (Lib.itoa n)).size + 1
  omega
theorem room_d (n : Int) (h0 : 0 ≤ n) (h1 : n ≤ 1099511627776) : ¬ 9223372036854775807 < (str (Lib.itoa n)).size + (⟨#[100]⟩ : ByteArray).size := by
  have := itoa_size n h0 h1
  show ¬ 9223372036854775807 < (str (Lib.itoa n)).size + 1
  omega
theorem below_new {w w' : World} {o : Obj} (h : Below (w.alloc o).heap.size (w.alloc o) w') : Below w.heap.size w w' :=
  ((Below.refl _ _).alloc (Nat.le_refl _) _).trans (h.mono (by simp))

end Go.Proofs.YtppnlijeonneeaaDoor
