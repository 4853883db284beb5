/- Numbers of the field: what the program's package gauss gives of small whole parts. -/
import Derived.Test.YtlbldmpiaebeeaaDoorGsA
import Derived.Test.YtlbldmpiaebeeaaDoorBytes
import Derived.WalkLawsBesides
import Derived.Tactics
import Derived.WalkKit
namespace Go.Proofs.YtlbldmpiaebeeaaDoor
open Go Go.RowKit

/-- A complex number of whole parts. -/
def cx (a b : Int) : Value := .complex .f64 (fw a) (fw b)
theorem conv_if (W : World) (n : Int) : (convert 3 92 (.int .i64 n)).run Tryd.prog W = .ok (.float .f64 (fw n)) W :=
  run_convert_int_float (P := Tryd.prog) W 3 92 .i64 .f64 n (by rw [Tryd.underlying3]; rfl) Tryd.underlying92
theorem conv_fi (W : World) (n : Int) (h : n.natAbs < 2 ^ 53) : (convert 92 3 (.float .f64 (fw n))).run Tryd.prog W = .ok (.int .i64 n) W :=
  run_convert_float_int (P := Tryd.prog) W 92 3 .f64 .i64 _ n (by rw [Tryd.underlying92]; rfl) Tryd.underlying3 (toIntVal_fw n h)
theorem add_cx (W : World) (a b c d : Int) (ha : a.natAbs < 2 ^ 50) (hb : b.natAbs < 2 ^ 50) (hc : c.natAbs < 2 ^ 50) (hd : d.natAbs < 2 ^ 50) : (binOp .add 84 (.complex .f64 (fw a) (fw b)) (.complex .f64 (fw c) (fw d))).run Tryd.prog W = .ok (.complex .f64 (fw (a + c)) (fw (b + d))) W :=
  run_complex_sum (P := Tryd.prog) W .add (.inl rfl) _ .f64 _ _ _ _ _ _ (cadd_fw a b c d ha hb hc hd)
theorem mul_cx (W : World) (a b c d : Int) (ha : smI a) (hb : smI b) (hc : smI c) (hd : smI d) : (binOp .mul 84 (.complex .f64 (fw a) (fw b)) (.complex .f64 (fw c) (fw d))).run Tryd.prog W = .ok (.complex .f64 (fw (a * c - b * d)) (fw (a * d + b * c))) W :=
  run_complex_mul (P := Tryd.prog) W _ _ _ _ _ _ _ (cmul_fw a b c d ha hb hc hd)
/-- Fits an int. -/
def i64I (n : Int) : Prop := -9223372036854775808 ≤ n ∧ n ≤ 9223372036854775807
theorem tmod_p (n : Int) : n.tmod 8191 = if 0 ≤ n ∨ (8191 : Int) ∣ n then n % 8191 else n % 8191 - 8191 := by
  rw [Int.tmod_eq_emod]
  split <;> simp
theorem rest_g (w : World) (n : Int) (h : i64I n) : Calls Tryd.prog 65 #[.int .i64 n] w fun e w' => e = .returned (.int .i64 (n % 8191)) ∧ w = w' := by
  obtain ⟨h1, h2⟩ := h
  have ht := tmod_p n
  obtain ⟨r, hr⟩ : ∃ r, n.tmod 8191 = r := ⟨_, rfl⟩
  rw [hr] at ht
  have hb : -8191 < r ∧ r < 8191 := by split at ht <;> omega
  by_cases hn : r < 0
  · have e : n % 8191 = r + 8191 := by split at ht <;> omega
    rw [e]
    clear ht e
    go_enter Tryd.func65, Tryd.ntmps65
    go_wp2
    all_goals (try (exfalso; omega))
    go_ret
    exact ⟨rfl, rfl⟩
  · have e : n % 8191 = r := by split at ht <;> omega
    rw [e]
    clear ht e
    go_enter Tryd.func65, Tryd.ntmps65
    go_wp2
    all_goals (try (exfalso; omega))
    go_ret
    exact ⟨rfl, rfl⟩
theorem of_g (w : World) (a b : Int) (ha : i64I a) (hb : i64I b) : Calls Tryd.prog 56 #[.int .i64 a, .int .i64 b] w fun e w' => e = .returned (cx (a % 8191) (b % 8191)) ∧ w = w' := by
  have c1 := fun W => rest_g W a ha
  have c2 := fun W => rest_g W b hb
  have hcv := conv_if
  go_enter Tryd.func56, Tryd.ntmps56
  go_wp2_with (first
    | (go_at_call 65; (with_reducible refine (c1 _).mono ?_); rintro e w1 ⟨rfl, rfl⟩)
    | (go_at_call 65; (with_reducible refine (c2 _).mono ?_); rintro e w1 ⟨rfl, rfl⟩))
  go_ret
  exact ⟨rfl, rfl⟩
theorem parts_g (w : World) (a b : Int) (ha : a.natAbs < 2 ^ 53) (hb : b.natAbs < 2 ^ 53) : Calls Tryd.prog 47 #[cx a b] w fun e w' => e = .returned (.tuple #[.int .i64 a, .int .i64 b]) ∧ w = w' := by
  have h1 := fun W => conv_fi W a ha
  have h2 := fun W => conv_fi W b hb
  unfold cx
  go_enter Tryd.func47, Tryd.ntmps47
  go_wp2
  go_ret2
  exact ⟨rfl, rfl⟩
theorem back_g (w : World) (a b : Int) (ha : a.natAbs < 2 ^ 53) (hb : b.natAbs < 2 ^ 53) : Calls Tryd.prog 66 #[cx a b] w fun e w' => e = .returned (cx (a % 8191) (b % 8191)) ∧ w = w' := by
  have h1 := fun W => parts_g W a b ha hb
  have h2 := fun W => of_g W a b (by constructor <;> omega) (by constructor <;> omega)
  go_enter Tryd.func66, Tryd.ntmps66
  go_wp2_with (first
    | (go_at_call 47; (with_reducible refine (h1 _).mono ?_); rintro e w1 ⟨rfl, rfl⟩)
    | (go_at_call 56; (with_reducible refine (h2 _).mono ?_); rintro e w1 ⟨rfl, rfl⟩))
  go_ret
  exact ⟨rfl, rfl⟩
theorem add_g (w : World) (a b c d : Int) (ha : smI a) (hb : smI b) (hc : smI c) (hd : smI d) : Calls Tryd.prog 58 #[cx a b, cx c d] w fun e w' => e = .returned (cx ((a + c) % 8191) ((b + d) % 8191)) ∧ w = w' := by
  obtain ⟨a1, a2⟩ := ha
  obtain ⟨b1, b2⟩ := hb
  obtain ⟨c1, c2⟩ := hc
  obtain ⟨d1, d2⟩ := hd
  have h1 := fun W => add_cx W a b c d (by omega) (by omega) (by omega) (by omega)
  have h2 := fun W => back_g W (a + c) (b + d) (by omega) (by omega)
  unfold cx at h2 ⊢
  go_enter Tryd.func58, Tryd.ntmps58
  go_wp2_with (go_at_call 66; (with_reducible refine (h2 _).mono ?_); rintro e w1 ⟨rfl, rfl⟩)
  go_ret
  exact ⟨rfl, rfl⟩
theorem mul_g (w : World) (a b c d : Int) (ha : smI a) (hb : smI b) (hc : smI c) (hd : smI d) : Calls Tryd.prog 59 #[cx a b, cx c d] w fun e w' => e = .returned (cx ((a * c - b * d) % 8191) ((a * d + b * c) % 8191)) ∧ w = w' := by
  have h1 := fun W => mul_cx W a b c d ha hb hc hd
  have e1 := mul_small ha hc
  have e2 := mul_small hb hd
  have e3 := mul_small ha hd
  have e4 := mul_small hb hc
  have h2 := fun W => back_g W (a * c - b * d) (a * d + b * c) (by omega) (by omega)
  unfold cx at h2 ⊢
  go_enter Tryd.func59, Tryd.ntmps59
  go_wp2_with (go_at_call 66; (with_reducible refine (h2 _).mono ?_); rintro e w1 ⟨rfl, rfl⟩)
  go_ret
  exact ⟨rfl, rfl⟩
theorem base_m (w : World) : Calls Tryd.prog 57 #[] w fun e w' => e = .returned (cx 4 1) ∧ w = w' := by
  have h2 := fun W => of_g W 4 1 (by constructor <;> omega) (by constructor <;> omega)
  go_enter Tryd.func57, Tryd.ntmps57
  go_wp2_with (go_at_call 56; (with_reducible refine (h2 _).mono ?_); rintro e w1 ⟨rfl, rfl⟩)
  go_ret
  exact ⟨rfl, rfl⟩
/-- One byte more in a mark. -/
def mkStep (z : Int × Int) (c : UInt8) : Int × Int := (((z.1 * 4 - z.2) % 8191 + ((c.toNat : Int) + 1)) % 8191, ((z.1 + z.2 * 4) % 8191 + 0) % 8191)
/-- The mark of bytes. -/
def markZ (z : Int × Int) (l : List UInt8) : Int × Int := l.foldl mkStep z
/-- Both parts are reduced. -/
def redZ (z : Int × Int) : Prop := (0 ≤ z.1 ∧ z.1 < 8191) ∧ 0 ≤ z.2 ∧ z.2 < 8191
theorem mkStep_red (z : Int × Int) (c : UInt8) : redZ (mkStep z c) := by
  unfold redZ mkStep
  dsimp only
  omega
theorem markZ_red (l : List UInt8) (z : Int × Int) (h : redZ z) : redZ (markZ z l) := by
  induction l generalizing z with
  | nil => exact h
  | cons c l ih => exact ih _ (mkStep_red z c)
end Go.Proofs.YtlbldmpiaebeeaaDoor
