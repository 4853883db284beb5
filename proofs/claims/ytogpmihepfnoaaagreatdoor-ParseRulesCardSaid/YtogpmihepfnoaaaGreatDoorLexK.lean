/- Blanks and remarks: plain laws. -/
import Derived.Test.YtogpmihepfnoaaaGreatDoorLexA
namespace Go.Proofs.YtogpmihepfnoaaaGreatDoor
open Go

/-- How many bytes are blank, or a remark. -/
def skipL (l : List UInt8) : Nat :=
  match l with
  | [] => 0
  | c :: r => if blankB c then skipL r + 1 else if c.toNat = 35 then 1 + runL nlB r + skipL (r.dropWhile nlB) else 0
termination_by l.length
decreasing_by
  · simp
  · have := dropWhile_le nlB r
    simp; omega
theorem skipL_nil : skipL [] = 0 := by rw [skipL]
theorem skipL_blank {c : UInt8} {r : List UInt8} (h : blankB c = true) : skipL (c :: r) = skipL r + 1 := by rw [skipL, if_pos h]
theorem skipL_remark {c : UInt8} {r : List UInt8} (h : blankB c = false) (h2 : c.toNat = 35) : skipL (c :: r) = 1 + runL nlB r + skipL (r.dropWhile nlB) := by rw [skipL, h, if_neg (by simp), if_pos h2]
theorem skipL_tok {c : UInt8} {r : List UInt8} (h : blankB c = false) (h2 : c.toNat ≠ 35) : skipL (c :: r) = 0 := by rw [skipL, h, if_neg (by simp), if_neg h2]
theorem skipL_le_n : ∀ (n : Nat) (l : List UInt8), l.length ≤ n → skipL l ≤ l.length
  | _, [], _ => by rw [skipL_nil]; exact Nat.zero_le _
  | 0, _ :: _, h => by simp at h
  | n + 1, c :: r, h => by
    rw [List.length_cons] at h ⊢
    cases hb : blankB c with
    | true =>
      rw [skipL_blank hb]
      have := skipL_le_n n r (by omega)
      omega
    | false =>
      by_cases h2 : c.toNat = 35
      · rw [skipL_remark hb h2]
        have h3 := dropWhile_le nlB r
        have h4 := skipL_le_n n (r.dropWhile nlB) (by omega)
        rw [← drop_run, List.length_drop] at h4
        rw [← drop_run]
        have := runL_le nlB r
        omega
      · rw [skipL_tok hb h2]; exact Nat.zero_le _
theorem skipL_le (l : List UInt8) : skipL l ≤ l.length := skipL_le_n l.length l (Nat.le_refl _)
theorem lexR_skip_n : ∀ (n : Nat) (l : List UInt8) (i : Nat), l.length ≤ n → lexR l i = lexR (l.drop (skipL l)) (i + skipL l)
  | _, [], i, _ => by rw [skipL_nil]; rfl
  | 0, _ :: _, _, h => by simp at h
  | n + 1, c :: r, i, h => by
    rw [List.length_cons] at h
    cases hb : blankB c with
    | true =>
      rw [lexR_blank hb, skipL_blank hb, List.drop_succ_cons, lexR_skip_n n r _ (by omega)]
      congr 1
      omega
    | false =>
      by_cases h2 : c.toNat = 35
      · have h3 := dropWhile_le nlB r
        rw [lexR_remark hb h2, skipL_remark hb h2, lexR_skip_n n _ _ (by omega), show 1 + runL nlB r + skipL (r.dropWhile nlB) = (runL nlB r + skipL (r.dropWhile nlB)) + 1 by omega, List.drop_succ_cons, ← List.drop_drop, drop_run]
        congr 1
        omega
      · rw [skipL_tok hb h2]; rfl
theorem lexR_skip (l : List UInt8) (i : Nat) : lexR l i = lexR (l.drop (skipL l)) (i + skipL l) := lexR_skip_n l.length l i (Nat.le_refl _)
end Go.Proofs.YtogpmihepfnoaaaGreatDoor
