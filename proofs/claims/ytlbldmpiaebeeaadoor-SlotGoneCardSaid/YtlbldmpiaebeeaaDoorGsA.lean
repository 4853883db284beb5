/- Whole numbers as floats of 64 bits: sums, differences and products of small ones are exact. No condition but their size. -/
import Derived.Laws.ComplexArith
namespace Go.Proofs.YtlbldmpiaebeeaaDoor
open Go Ieee

theorem log2_mul_pow (m k : Nat) (hm : m ≠ 0) : (m * 2 ^ k).log2 = m.log2 + k := by
  have h1 := Nat.log2_self_le hm
  have h2 : m < 2 ^ (m.log2 + 1) := Nat.lt_log2_self
  have hp : 0 < 2 ^ k := Nat.two_pow_pos k
  rw [Nat.log2_eq_iff (Nat.mul_ne_zero hm (by omega))]
  constructor
  · rw [Nat.pow_add]; exact Nat.mul_le_mul_right _ h1
  · rw [show m.log2 + k + 1 = (m.log2 + 1) + k by omega, Nat.pow_add]
    exact Nat.mul_lt_mul_of_pos_right h2 hp
theorem cut_exact (way : Toward) (neg : Bool) (q d : Nat) : way.cut neg (q * 2 ^ d) d = q := by
  have key : ∀ g, (q * 2 ^ d) % 2 ^ g = 0 → (q * 2 ^ d) / 2 ^ g = q → g = min d ((q * 2 ^ d).log2 + 2) → way.cut neg (q * 2 ^ d) d = q := by
    intro g h1 h2 h3
    have hp : 0 < 2 ^ g := Nat.two_pow_pos g
    unfold Toward.cut
    simp only [← h3, Nat.one_shiftLeft, h1, h2]
    cases way <;> simp
  by_cases hq : q = 0
  · subst hq
    refine key _ ?_ ?_ rfl <;> simp
  · have hl := log2_mul_pow q d hq
    refine key d (Nat.mul_mod_left _ _) (Nat.mul_div_cancel _ (Nat.two_pow_pos d)) ?_
    omega
/-- The word of a whole number that is not 0. -/
def wInt (neg : Bool) (m : Nat) : Nat := double.word neg ((m.log2 + 1022) * 2 ^ 52 + m * 2 ^ (52 - m.log2))
theorem log_lt {m : Nat} (hm : m ≠ 0) (h : m < 2 ^ 53) : m.log2 ≤ 52 := by
  have := (Nat.log2_lt hm (k := 53)).2 h
  omega
theorem kept_bounds {m : Nat} (hm : m ≠ 0) (h : m < 2 ^ 53) : 2 ^ 52 ≤ m * 2 ^ (52 - m.log2) ∧ m * 2 ^ (52 - m.log2) < 2 ^ 53 := by
  have hl := log_lt hm h
  have h1 := Nat.log2_self_le hm
  have h2 : m < 2 ^ (m.log2 + 1) := Nat.lt_log2_self
  constructor
  · have := Nat.mul_le_mul_right (2 ^ (52 - m.log2)) h1
    rw [← Nat.pow_add] at this
    rwa [show m.log2 + (52 - m.log2) = 52 by omega] at this
  · have := Nat.mul_lt_mul_of_pos_right h2 (Nat.two_pow_pos (52 - m.log2))
    rw [← Nat.pow_add] at this
    rwa [show m.log2 + 1 + (52 - m.log2) = 53 by omega] at this
theorem nearest_int (neg : Bool) (m k : Nat) (hm : m ≠ 0) (h : m < 2 ^ 53) : double.nearest neg (m * 2 ^ k) (-(k : Int)) = wInt neg m := by
  have hl := log_lt hm h
  have hp : m * 2 ^ k ≠ 0 := Nat.mul_ne_zero hm (by have := Nat.two_pow_pos k; omega)
  have hk := kept_bounds hm h
  have hlg := log2_mul_pow m k hm
  have hf : double.fractionBits = 52 := rfl
  have hle : double.leastPlace = -1074 := by decide
  have hb : double.binade = 2 ^ 52 := rfl
  have hi : double.infRung = 2047 * 2 ^ 52 := by decide
  unfold Format.nearest wInt
  rw [if_neg hp]
  simp only [hlg, hf, hle, hb, hi]
  have hlast : max (-(k : Int) + ((m.log2 + k : Nat) : Int) - ((52 : Nat) : Int)) (-1074) = (m.log2 : Int) - 52 := by omega
  rw [hlast]
  have hcut : Toward.even.cut neg ((m * 2 ^ k) <<< (-(k : Int) - ((m.log2 : Int) - 52)).toNat) (((m.log2 : Int) - 52) - -(k : Int)).toNat = m * 2 ^ (52 - m.log2) := by
    rcases Nat.lt_or_ge k (52 - m.log2) with hc | hc
    · rw [show (-(k : Int) - ((m.log2 : Int) - 52)).toNat = 52 - m.log2 - k by omega, show (((m.log2 : Int) - 52) - -(k : Int)).toNat = 0 by omega, Nat.shiftLeft_eq, Nat.mul_assoc, ← Nat.pow_add, show k + (52 - m.log2 - k) = 52 - m.log2 by omega]
      have := cut_exact .even neg (m * 2 ^ (52 - m.log2)) 0
      rwa [Nat.pow_zero, Nat.mul_one] at this
    · rw [show (-(k : Int) - ((m.log2 : Int) - 52)).toNat = 0 by omega, show (((m.log2 : Int) - 52) - -(k : Int)).toNat = k - (52 - m.log2) by omega, Nat.shiftLeft_eq, Nat.pow_zero, Nat.mul_one]
      have := cut_exact .even neg (m * 2 ^ (52 - m.log2)) (k - (52 - m.log2))
      rwa [Nat.mul_assoc, ← Nat.pow_add, show 52 - m.log2 + (k - (52 - m.log2)) = k by omega] at this
  rw [hcut, show ((m.log2 : Int) - 52 - -1074).toNat = m.log2 + 1022 by omega]
  congr 1
  apply Nat.min_eq_left
  omega
theorem read_wInt (neg : Bool) (m : Nat) (hm : m ≠ 0) (h : m < 2 ^ 53) : double.read (wInt neg m) = .number neg (m * 2 ^ (52 - m.log2)) (-((52 - m.log2 : Nat) : Int)) := by
  have hl := log_lt hm h
  have hk := kept_bounds hm h
  have hle : double.leastPlace = -1074 := by decide
  have hb : double.binade = 2 ^ 52 := rfl
  have hi : double.infRung = 2047 * 2 ^ 52 := by decide
  have hs : double.signWeight = 2 ^ 63 := by decide
  unfold wInt
  generalize hkk : m * 2 ^ (52 - m.log2) = kept at hk ⊢
  generalize m.log2 = e at hl ⊢
  have hr : (e + 1022) * 2 ^ 52 + kept < 2 ^ 63 := by omega
  have h1 : double.word neg ((e + 1022) * 2 ^ 52 + kept) / double.signWeight % 2 = neg.toNat := by
    unfold Format.word
    rw [hs]
    cases neg
    · rw [if_neg (by decide), Nat.div_eq_of_lt hr]; rfl
    · rw [if_pos rfl]; show _ = 1; omega
  have h2 : double.word neg ((e + 1022) * 2 ^ 52 + kept) % double.signWeight = (e + 1022) * 2 ^ 52 + kept := by
    unfold Format.word
    rw [hs]
    cases neg
    · rw [if_neg (by decide), Nat.mod_eq_of_lt hr]
    · rw [if_pos rfl]; omega
  unfold Format.read
  simp only [h1, h2, hb, hi, hle]
  rw [if_neg (by omega), if_pos (by omega)]
  have h3 : ((e + 1022) * 2 ^ 52 + kept) % 2 ^ 52 = kept - 2 ^ 52 := by omega
  have h4 : ((e + 1022) * 2 ^ 52 + kept) / 2 ^ 52 - 1 = e + 1022 := by omega
  have g1 : (neg.toNat == 1) = neg := by cases neg <;> rfl
  have g2 : 2 ^ 52 + (kept - 2 ^ 52) = kept := by omega
  have g3 : (-1074 : Int) + ((e + 1022 : Nat) : Int) = -((52 - e : Nat) : Int) := by omega
  simp only [h3, h4, g1, g2, g3]
/-- The float of a whole number. -/
def fw (n : Int) : Nat := double.nearest (n < 0) n.natAbs 0
theorem fw_ne (n : Int) (h0 : n ≠ 0) (h : n.natAbs < 2 ^ 53) : fw n = wInt (n < 0) n.natAbs := by
  have := nearest_int (n < 0) n.natAbs 0 (by omega) h
  rwa [Nat.pow_zero, Nat.mul_one] at this
theorem fw_zero : fw 0 = 0 := by decide
theorem read_fw (n : Int) (h : n.natAbs < 2 ^ 53) : ∃ s : Nat, double.read (fw n) = .number (n < 0) (n.natAbs * 2 ^ s) (-(s : Int)) := by
  by_cases h0 : n = 0
  · subst h0
    obtain ⟨s, hs⟩ : ∃ s : Nat, s = 1074 := ⟨_, rfl⟩
    refine ⟨s, ?_⟩
    rw [fw_zero, show (0 : Int).natAbs = 0 from rfl, Nat.zero_mul, hs]
    rfl
  · exact ⟨52 - n.natAbs.log2, by rw [fw_ne n h0 h]; exact read_wInt _ _ (by omega) h⟩
theorem write_fw (n : Int) (h : n.natAbs < 2 ^ 53) (u : Nat) : double.write (.number (n < 0) (n.natAbs * 2 ^ u) (-(u : Int))) = fw n := by
  by_cases h0 : n = 0
  · subst h0
    rw [fw_zero]
    show double.nearest _ _ _ = 0
    unfold Format.nearest
    simp [Format.word]
  · rw [fw_ne n h0 h]
    exact nearest_int _ _ _ (by omega) h
theorem signed_fw (n : Int) (s u : Nat) (h : s ≤ u) : signed (n < 0) (n.natAbs * 2 ^ s) (u - s) = n * 2 ^ u := by
  unfold signed
  rw [Nat.shiftLeft_eq, Nat.mul_assoc, ← Nat.pow_add, show s + (u - s) = u by omega]
  split
  · rename_i hn
    have hn : n < 0 := of_decide_eq_true hn
    rw [Int.natCast_mul, Int.natCast_pow, ← Int.neg_mul]
    congr 1
    omega
  · rename_i hn
    have hn : ¬ n < 0 := fun h => hn (decide_eq_true h)
    rw [Int.natCast_mul, Int.natCast_pow]
    congr 1
    omega
theorem signed_op (n : Int) (s u : Nat) (h : s ≤ u) : signed (!decide (n < 0)) (n.natAbs * 2 ^ s) (u - s) = -n * 2 ^ u := by
  have := signed_fw n s u h
  unfold signed at this ⊢
  rw [Int.neg_mul, ← this]
  cases decide (n < 0) <;> simp
theorem sum_fw (a b : Int) (s t : Nat) (neg2 : Bool) (hs : ∀ u, t ≤ u → signed neg2 (b.natAbs * 2 ^ t) (u - t) = b * 2 ^ u) (hz : a + b = 0 → (decide (a < 0) && neg2) = false) (h : (a + b).natAbs < 2 ^ 53) :
    ((Datum.number (a < 0) (a.natAbs * 2 ^ s) (-(s : Int))).sum (.number neg2 (b.natAbs * 2 ^ t) (-(t : Int)))).map double.write = some (fw (a + b)) := by
  unfold Datum.sum
  have hb : min (-(s : Int)) (-(t : Int)) = -((max s t : Nat) : Int) := by omega
  simp only [hb, Option.map_some]
  generalize hu : max s t = u
  have h1 : signed (a < 0) (a.natAbs * 2 ^ s) (-(s : Int) - -(u : Int)).toNat = a * 2 ^ u := by
    rw [show (-(s : Int) - -(u : Int)).toNat = u - s by omega]
    exact signed_fw a s u (by omega)
  have h2 : signed neg2 (b.natAbs * 2 ^ t) (-(t : Int) - -(u : Int)).toNat = b * 2 ^ u := by
    rw [show (-(t : Int) - -(u : Int)).toNat = u - t by omega]
    exact hs u (by omega)
  rw [h1, h2, ← Int.add_mul]
  have hp : (0 : Int) < 2 ^ u := Int.pow_pos (by decide)
  have h3 : ((a + b) * 2 ^ u = 0) ↔ a + b = 0 := by
    rw [Int.mul_eq_zero]
    exact ⟨fun h => h.elim id fun h => by omega, .inl⟩
  have h4 : ((a + b) * 2 ^ u).natAbs = (a + b).natAbs * 2 ^ u := by
    rw [Int.natAbs_mul, Int.natAbs_pow]; rfl
  have h5 : decide ((a + b) * 2 ^ u < 0) = decide (a + b < 0) := by
    rw [decide_eq_decide]
    constructor
    · intro h; exact Int.neg_of_mul_neg_left h (by omega)
    · intro h; exact Int.mul_neg_of_neg_of_pos h hp
  have h6 : (if (a + b) * 2 ^ u = 0 then (decide (a < 0) && neg2) else decide ((a + b) * 2 ^ u < 0)) = decide (a + b < 0) := by
    by_cases hz2 : a + b = 0
    · rw [if_pos (h3.2 hz2), hz hz2, hz2]; rfl
    · rw [if_neg (fun h => hz2 (h3.1 h)), h5]
  rw [h6, h4, write_fw _ h]
theorem add_fw (a b : Int) (ha : a.natAbs < 2 ^ 53) (hb : b.natAbs < 2 ^ 53) (h : (a + b).natAbs < 2 ^ 53) : double.add (fw a) (fw b) = some (fw (a + b)) := by
  obtain ⟨s, es⟩ := read_fw a ha
  obtain ⟨t, et⟩ := read_fw b hb
  unfold Format.add
  rw [es, et]
  exact sum_fw a b s t _ (fun u hu => signed_fw b t u hu) (fun hz => by simp; omega) h
theorem sub_fw (a b : Int) (ha : a.natAbs < 2 ^ 53) (hb : b.natAbs < 2 ^ 53) (h : (a - b).natAbs < 2 ^ 53) : double.sub (fw a) (fw b) = some (fw (a - b)) := by
  obtain ⟨s, es⟩ := read_fw a ha
  obtain ⟨t, et⟩ := read_fw b hb
  unfold Format.sub
  rw [es, et]
  have := sum_fw a (-b) s t (!decide (b < 0)) (fun u hu => by rw [Int.natAbs_neg]; exact signed_op b t u hu) (fun hz => by simp; omega) (by rwa [← Int.sub_eq_add_neg])
  rw [Int.natAbs_neg, ← Int.sub_eq_add_neg] at this
  exact this
theorem mul_fw (a b : Int) (ha0 : 0 ≤ a) (hb0 : 0 ≤ b) (ha : a.natAbs < 2 ^ 53) (hb : b.natAbs < 2 ^ 53) (h : (a * b).natAbs < 2 ^ 53) : double.mul (fw a) (fw b) = some (fw (a * b)) := by
  obtain ⟨s, es⟩ := read_fw a ha
  obtain ⟨t, et⟩ := read_fw b hb
  unfold Format.mul
  rw [es, et]
  unfold Datum.product
  simp only [Option.map_some]
  have h1 : (decide (a < 0) ^^ decide (b < 0)) = decide (a * b < 0) := by
    have := Int.mul_nonneg ha0 hb0
    rw [decide_eq_false (by omega), decide_eq_false (by omega), decide_eq_false (by omega)]
    rfl
  have h2 : a.natAbs * 2 ^ s * (b.natAbs * 2 ^ t) = (a * b).natAbs * 2 ^ (s + t) := by
    rw [Int.natAbs_mul, Nat.pow_add]
    ac_rfl
  rw [h1, h2, show -(s : Int) + -(t : Int) = -((s + t : Nat) : Int) by omega, write_fw _ h]
theorem toInt_fw (n : Int) (h : n.natAbs < 2 ^ 53) : (double.read (fw n)).toInt .zero = some n := by
  obtain ⟨s, es⟩ := read_fw n h
  rw [es]
  unfold Datum.toInt Datum.integral
  have h1 : (n.natAbs * 2 ^ s) <<< (-(s : Int)).toNat = n.natAbs * 2 ^ s := by
    rw [show (-(s : Int)).toNat = 0 by omega]; simp
  have h2 : (- -(s : Int)).toNat = s := by omega
  simp only [h1, h2, cut_exact]
  have := signed_fw n 0 0 (Nat.le_refl _)
  rw [Nat.pow_zero, Nat.mul_one] at this
  rw [this]
  simp
/-- Small: numbers whose products are exact. -/
def smI (n : Int) : Prop := 0 ≤ n ∧ n < 65536
theorem mul_small {a b : Int} (ha : smI a) (hb : smI b) : 0 ≤ a * b ∧ a * b < 4294967296 := by
  refine ⟨Int.mul_nonneg ha.1 hb.1, ?_⟩
  have h1 : a * b ≤ 65535 * b := Int.mul_le_mul_of_nonneg_right (by have := ha.2; omega) hb.1
  have := hb.2
  omega
theorem cmul_fw (a b c d : Int) (ha : smI a) (hb : smI b) (hc : smI c) (hd : smI d) : cMulBits (fw a) (fw b) (fw c) (fw d) = some (fw (a * c - b * d), fw (a * d + b * c)) := by
  have h1 := mul_small ha hc
  have h2 := mul_small hb hd
  have h3 := mul_small ha hd
  have h4 := mul_small hb hc
  obtain ⟨a1, a2⟩ := ha
  obtain ⟨b1, b2⟩ := hb
  obtain ⟨c1, c2⟩ := hc
  obtain ⟨d1, d2⟩ := hd
  have e1 := mul_fw a c a1 c1 (by omega) (by omega) (by omega)
  have e2 := mul_fw b d b1 d1 (by omega) (by omega) (by omega)
  have e3 := mul_fw a d a1 d1 (by omega) (by omega) (by omega)
  have e4 := mul_fw b c b1 c1 (by omega) (by omega) (by omega)
  generalize a * c = ac at *
  generalize b * d = bd at *
  generalize a * d = ad at *
  generalize b * c = bc at *
  have e5 := sub_fw ac bd (by omega) (by omega) (by omega)
  have e6 := add_fw ad bc (by omega) (by omega) (by omega)
  unfold cMulBits floatBits
  simp only [FloatKind.format]
  rw [e1, e2, e3, e4]
  simp only [Option.bind_some]
  rw [e5, e6]
  rfl
theorem cadd_fw (a b c d : Int) (ha : a.natAbs < 2 ^ 50) (hb : b.natAbs < 2 ^ 50) (hc : c.natAbs < 2 ^ 50) (hd : d.natAbs < 2 ^ 50) : cSumBits .add .f64 (fw a) (fw b) (fw c) (fw d) = some (fw (a + c), fw (b + d)) := by
  have e1 := add_fw a c (by omega) (by omega) (by omega)
  have e2 := add_fw b d (by omega) (by omega) (by omega)
  unfold cSumBits floatBits
  simp only [FloatKind.format]
  rw [e1, e2]
  rfl
theorem toIntVal_fw (n : Int) (h : n.natAbs < 2 ^ 53) : floatToIntVal .f64 (fw n) .i64 = some n := by
  unfold floatToIntVal
  have := toInt_fw n h
  rw [show FloatKind.f64.decode (fw n) = double.read (fw n) from rfl, this]
  have h1 : IntKind.i64.min = -9223372036854775808 := by decide
  have h2 : IntKind.i64.max = 9223372036854775807 := by decide
  simp only [h1, h2]
  rw [if_pos (by omega)]
theorem ofInt_fw (n : Int) : floatOfInt .f64 n = fw n := rfl
end Go.Proofs.YtlbldmpiaebeeaaDoor
