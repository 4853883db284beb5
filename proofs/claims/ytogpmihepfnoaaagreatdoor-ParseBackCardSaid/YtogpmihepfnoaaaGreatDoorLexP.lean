/- A schedule's words: plain laws (no program). -/
import Derived.Test.YtogpmihepfnoaaaGreatDoorSpanR
import Derived.Test.YtogpmihepfnoaaaGreatDoorEvName
namespace Go.Proofs.YtogpmihepfnoaaaGreatDoor
open Go

/-- A word of a text, and where it begins. -/
structure Tk where
  kind : Int
  text : ByteArray
  n : Int
  at_ : Int
abbrev Tk.zero : Tk := ⟨0, ⟨#[]⟩, 0, 0⟩
def lowB (c : UInt8) : Bool := decide (97 ≤ c.toNat ∧ c.toNat ≤ 122)
def digB (c : UInt8) : Bool := decide (48 ≤ c.toNat ∧ c.toNat ≤ 57)
def wordB (c : UInt8) : Bool := lowB c || digB c || decide (c.toNat = 45) || decide (c.toNat = 95)
def nlB (c : UInt8) : Bool := c != 10
def qtB (c : UInt8) : Bool := c != 34
def blankB (c : UInt8) : Bool := decide (c.toNat = 32 ∨ c.toNat = 10 ∨ c.toNat = 9)
/-- How many bytes a text begins with that are such. -/
def runL (p : UInt8 → Bool) (l : List UInt8) : Nat := (l.takeWhile p).length
def ba (l : List UInt8) : ByteArray := ⟨l.toArray⟩
/-- The token that a text begins with, how many bytes it has, and the error. -/
def lexOne : List UInt8 → Tk × Nat × Int
  | [] => (Tk.zero, 0, 2)
  | c :: r =>
    if c.toNat = 40 then (⟨4, ba [c], 0, 0⟩, 1, 0) else
    if c.toNat = 41 then (⟨5, ba [c], 0, 0⟩, 1, 0) else
    if c.toNat = 59 then (⟨6, ba [c], 0, 0⟩, 1, 0) else
    if lowB c then (⟨1, ba ((c :: r).take (runL wordB (c :: r))), 0, 0⟩, runL wordB (c :: r), 0) else
    if c.toNat = 34 then
      (if runL qtB r < r.length ∧ nameD (ba (r.take (runL qtB r))) = true then (⟨2, ba (r.take (runL qtB r)), 0, 0⟩, runL qtB r + 2, 0) else (Tk.zero, 0, 2)) else
    if digB c then
      (if runL digB (c :: r) < (c :: r).length ∧ lowB ((c :: r).getD (runL digB (c :: r)) 0) = true then
        (if (parseD (ba ((c :: r).take (runL digB (c :: r) + 1)))).2 = 0 then (⟨3, ba ((c :: r).take (runL digB (c :: r) + 1)), (parseD (ba ((c :: r).take (runL digB (c :: r) + 1)))).1, 0⟩, runL digB (c :: r) + 1, 0)
         else (Tk.zero, 0, (parseD (ba ((c :: r).take (runL digB (c :: r) + 1)))).2))
       else (Tk.zero, 0, 2)) else
    (Tk.zero, 0, 2)
theorem runL_le (p : UInt8 → Bool) : ∀ l : List UInt8, runL p l ≤ l.length
  | [] => Nat.le_refl _
  | c :: r => by
    have := runL_le p r
    unfold runL at *
    rw [List.takeWhile_cons]
    split
    · rw [List.length_cons, List.length_cons]; omega
    · exact Nat.zero_le _
theorem dropWhile_le (p : UInt8 → Bool) : ∀ l : List UInt8, (l.dropWhile p).length ≤ l.length
  | [] => Nat.le_refl _
  | c :: r => by
    rw [List.dropWhile_cons]
    split
    · have := dropWhile_le p r
      rw [List.length_cons]; omega
    · exact Nat.le_refl _
/-- The tokens from a place on, where it ended, and the error. -/
def lexR (l : List UInt8) (i : Nat) : List Tk × Nat × Int :=
  match l with
  | [] => ([], i, 0)
  | c :: r =>
    if blankB c then lexR r (i + 1) else
    if c.toNat = 35 then lexR (r.dropWhile nlB) (i + 1 + runL nlB r) else
    if (lexOne (c :: r)).2.2 = 0 then
      (let t := lexR (r.drop ((lexOne (c :: r)).2.1 - 1)) (i + (lexOne (c :: r)).2.1)
       if t.2.2 = 0 then ({ (lexOne (c :: r)).1 with at_ := i } :: t.1, t.2.1, 0) else ([], t.2.1, t.2.2))
    else ([], i, (lexOne (c :: r)).2.2)
termination_by l.length
decreasing_by
  · simp
  · have := dropWhile_le nlB r
    simp; omega
  · simp; omega
/-- A text's tokens, or where it is wrong. -/
def lexAll (l : List UInt8) : List Tk × Nat × Int := if 600 < l.length then ([], 0, 3) else lexR l 0
theorem lexR_nil (i : Nat) : lexR [] i = ([], i, 0) := by rw [lexR]
theorem lexR_blank {c : UInt8} {r : List UInt8} {i : Nat} (h : blankB c = true) : lexR (c :: r) i = lexR r (i + 1) := by rw [lexR, if_pos h]
theorem lexR_remark {c : UInt8} {r : List UInt8} {i : Nat} (h : blankB c = false) (h2 : c.toNat = 35) : lexR (c :: r) i = lexR (r.dropWhile nlB) (i + 1 + runL nlB r) := by
  rw [lexR, h, if_neg (by simp), if_pos h2]
theorem lexR_tok {c : UInt8} {r : List UInt8} {i : Nat} (h : blankB c = false) (h2 : c.toNat ≠ 35) :
    lexR (c :: r) i = if (lexOne (c :: r)).2.2 = 0 then
      (if (lexR (r.drop ((lexOne (c :: r)).2.1 - 1)) (i + (lexOne (c :: r)).2.1)).2.2 = 0 then ({ (lexOne (c :: r)).1 with at_ := i } :: (lexR (r.drop ((lexOne (c :: r)).2.1 - 1)) (i + (lexOne (c :: r)).2.1)).1, (lexR (r.drop ((lexOne (c :: r)).2.1 - 1)) (i + (lexOne (c :: r)).2.1)).2.1, 0) else ([], (lexR (r.drop ((lexOne (c :: r)).2.1 - 1)) (i + (lexOne (c :: r)).2.1)).2.1, (lexR (r.drop ((lexOne (c :: r)).2.1 - 1)) (i + (lexOne (c :: r)).2.1)).2.2))
    else ([], i, (lexOne (c :: r)).2.2) := by
  rw [lexR, h, if_neg (by simp), if_neg h2]
/-- What a token that is one has: at least a byte, no more than there are. -/
theorem runL_pos {p : UInt8 → Bool} {c : UInt8} {r : List UInt8} (h : p c = true) : 1 ≤ runL p (c :: r) := by
  unfold runL
  rw [List.takeWhile_cons, if_pos h]
  simp
theorem lowB_iff {c : UInt8} : lowB c = true ↔ 97 ≤ c.toNat ∧ c.toNat ≤ 122 := by unfold lowB; rw [decide_eq_true_eq]
theorem lowB_no {c : UInt8} (h : ¬ (97 ≤ c.toNat ∧ c.toNat ≤ 122)) : lowB c = false := decide_eq_false h
theorem digB_iff {c : UInt8} : digB c = true ↔ 48 ≤ c.toNat ∧ c.toNat ≤ 57 := by unfold digB; rw [decide_eq_true_eq]
theorem digB_no {c : UInt8} (h : ¬ (48 ≤ c.toNat ∧ c.toNat ≤ 57)) : digB c = false := decide_eq_false h
section
variable {c : UInt8} {r : List UInt8}
theorem lexOne_40 (h : c.toNat = 40) : lexOne (c :: r) = (⟨4, ba [c], 0, 0⟩, 1, 0) := by rw [lexOne, if_pos h]
theorem lexOne_41 (h : c.toNat = 41) : lexOne (c :: r) = (⟨5, ba [c], 0, 0⟩, 1, 0) := by rw [lexOne, if_neg (by omega), if_pos h]
theorem lexOne_59 (h : c.toNat = 59) : lexOne (c :: r) = (⟨6, ba [c], 0, 0⟩, 1, 0) := by rw [lexOne, if_neg (by omega), if_neg (by omega), if_pos h]
theorem lexOne_low (h : lowB c = true) : lexOne (c :: r) = (⟨1, ba ((c :: r).take (runL wordB (c :: r))), 0, 0⟩, runL wordB (c :: r), 0) := by
  have := lowB_iff.1 h
  rw [lexOne, if_neg (by omega), if_neg (by omega), if_neg (by omega), if_pos h]
theorem lexOne_quote (h : c.toNat = 34) : lexOne (c :: r) = if runL qtB r < r.length ∧ nameD (ba (r.take (runL qtB r))) = true then (⟨2, ba (r.take (runL qtB r)), 0, 0⟩, runL qtB r + 2, 0) else (Tk.zero, 0, 2) := by
  rw [lexOne, if_neg (by omega), if_neg (by omega), if_neg (by omega), lowB_no (by omega), if_neg (by simp), if_pos h]
theorem lexOne_dig (h : digB c = true) : lexOne (c :: r) = if runL digB (c :: r) < (c :: r).length ∧ lowB ((c :: r).getD (runL digB (c :: r)) 0) = true then
        (if (parseD (ba ((c :: r).take (runL digB (c :: r) + 1)))).2 = 0 then (⟨3, ba ((c :: r).take (runL digB (c :: r) + 1)), (parseD (ba ((c :: r).take (runL digB (c :: r) + 1)))).1, 0⟩, runL digB (c :: r) + 1, 0)
         else (Tk.zero, 0, (parseD (ba ((c :: r).take (runL digB (c :: r) + 1)))).2))
       else (Tk.zero, 0, 2) := by
  have := digB_iff.1 h
  rw [lexOne, if_neg (by omega), if_neg (by omega), if_neg (by omega), lowB_no (by omega), if_neg (by simp), if_neg (by omega), if_pos h]
theorem lexOne_other (h1 : c.toNat ≠ 40) (h2 : c.toNat ≠ 41) (h3 : c.toNat ≠ 59) (h4 : lowB c = false) (h5 : c.toNat ≠ 34) (h6 : digB c = false) : lexOne (c :: r) = (Tk.zero, 0, 2) := by
  rw [lexOne, if_neg h1, if_neg h2, if_neg h3, h4, if_neg (by simp), if_neg h5, h6, if_neg (by simp)]
/-- The ways of a token. -/
theorem lex_ways (c : UInt8) : c.toNat = 40 ∨ c.toNat = 41 ∨ c.toNat = 59 ∨ lowB c = true ∨ c.toNat = 34 ∨ digB c = true ∨ (c.toNat ≠ 40 ∧ c.toNat ≠ 41 ∧ c.toNat ≠ 59 ∧ lowB c = false ∧ c.toNat ≠ 34 ∧ digB c = false) := by
  unfold lowB digB
  simp only [decide_eq_true_eq, decide_eq_false_iff_not]
  omega
end
theorem lexOne_len {l : List UInt8} (h : (lexOne l).2.2 = 0) : 1 ≤ (lexOne l).2.1 ∧ (lexOne l).2.1 ≤ l.length := by
  cases l with
  | nil => cases h
  | cons c r =>
    rcases lex_ways c with h1 | h1 | h1 | h1 | h1 | h1 | ⟨h1, h2, h3, h4, h5, h6⟩
    · rw [lexOne_40 h1]; simp
    · rw [lexOne_41 h1]; simp
    · rw [lexOne_59 h1]; simp
    · rw [lexOne_low h1]
      have hw : wordB c = true := by unfold wordB; rw [h1]; rfl
      exact ⟨runL_pos hw, runL_le _ _⟩
    · rw [lexOne_quote h1] at h ⊢
      by_cases hq : runL qtB r < r.length ∧ nameD (ba (r.take (runL qtB r))) = true
      · rw [if_pos hq]; simp only [List.length_cons]; omega
      · rw [if_neg hq] at h; cases h
    · rw [lexOne_dig h1] at h ⊢
      by_cases hq : runL digB (c :: r) < (c :: r).length ∧ lowB ((c :: r).getD (runL digB (c :: r)) 0) = true
      · rw [if_pos hq] at h ⊢
        by_cases hp : (parseD (ba ((c :: r).take (runL digB (c :: r) + 1)))).2 = 0
        · rw [if_pos hp]; simp only; omega
        · rw [if_neg hp] at h; exact absurd h hp
      · rw [if_neg hq] at h; cases h
    · rw [lexOne_other h1 h2 h3 h4 h5 h6] at h; cases h
end Go.Proofs.YtogpmihepfnoaaaGreatDoor
