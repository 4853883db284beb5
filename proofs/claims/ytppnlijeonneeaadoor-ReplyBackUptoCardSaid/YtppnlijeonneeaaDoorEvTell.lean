/- Events: whether a record ends, an event as a text. -/
import Derived.Test.YtppnlijeonneeaaDoorEvMay
import Derived.Test.YtppnlijeonneeaaDoorSpanR
namespace Go.Proofs.YtppnlijeonneeaaDoor
open Go Go.RowKit Go.Sort

/-- Does a record end by it? -/
def endsD (k t : Int) (a b : ByteArray) : Bool := mayD k t a b && decide (k = 10 ∨ k = 11)
section
variable (k t : Int) (a b : ByteArray) (w : World)
end

def sp : ByteArray := ⟨#[32]⟩
/-- A part of a text behind a blank. -/
def partD (s : ByteArray) : ByteArray := if s.toList.isEmpty then ⟨#[]⟩ else ⟨#[32]⟩ ++ s
/-- An event as a text. -/
def evTextD (k t : Int) (a b : ByteArray) : ByteArray := if mayD k t a b then str (Lib.itoa t) ++ ⟨#[32]⟩ ++ wordD k ++ partD a ++ partD b else ⟨#[]⟩

theorem app_nil (s : ByteArray) : s ++ (⟨#[]⟩ : ByteArray) = s := ByteArray.append_empty
theorem word14_at : ∀ n : Nat, n < 14 → (#[.string ⟨#[115, 99, 104, 101, 100, 117, 108, 101]⟩, .string ⟨#[99, 97, 115, 101]⟩, .string ⟨#[115, 117, 98, 106, 101, 99, 116]⟩, .string ⟨#[105, 110, 103, 101, 115, 116]⟩, .string ⟨#[109, 105, 108, 101]⟩, .string ⟨#[114, 101, 99, 108, 97, 115, 115]⟩, .string ⟨#[104, 111, 108, 100]⟩, .string ⟨#[114, 101, 108, 101, 97, 115, 101]⟩, .string ⟨#[97, 109, 101, 110, 100]⟩, .string ⟨#[112, 117, 114, 103, 101]⟩, .string ⟨#[101, 114, 97, 115, 101]⟩, .string ⟨#[115, 104, 114, 101, 100]⟩, .string ⟨#[107, 101, 101, 112]⟩, .string ⟨#[114, 101, 100, 97, 99, 116]⟩] : Array Value)[n]? = some (.string (wordD ((n : Int) + 1)))
  | 0, _ => rfl | 1, _ => rfl | 2, _ => rfl | 3, _ => rfl | 4, _ => rfl | 5, _ => rfl | 6, _ => rfl | 7, _ => rfl | 8, _ => rfl | 9, _ => rfl | 10, _ => rfl | 11, _ => rfl | 12, _ => rfl | 13, _ => rfl
  | k + 14, h => by omega
theorem word_size (k : Int) : (wordD k).size ≤ 8 := by
  unfold wordD
  split
  · exact Nat.zero_le _
  · obtain ⟨n, rfl⟩ : ∃ n : Nat, k = n := ⟨k.toNat, by omega⟩
    rw [Int.toNat_natCast]
    by_cases h : n < 15
    · have : ∀ n : Nat, n < 15 → (wordsL.getD n ⟨#[]⟩).size ≤ 8 := by decide
      exact this n h
    · rw [List.getD_eq_getElem?_getD, List.getElem?_eq_none (by simp [wordsL]; omega)]
      exact Nat.zero_le _
theorem sp_size : (⟨#[32]⟩ : ByteArray).size = 1 := rfl
theorem app_size (a b : ByteArray) : (a ++ b).size = a.size + b.size := ByteArray.size_append
theorem nm_size (s : ByteArray) (h : nmD s = true) : s.size ≤ 16 := by
  unfold nmD at h
  rw [Bool.or_eq_true] at h
  rcases h with h | h
  · rw [ByteArray.toList_eq] at h
    have : s.data.toList.length = 0 := by
      cases hl : s.data.toList with
      | nil => rfl
      | cons => rw [hl] at h; cases h
    have : s.size = 0 := by simpa using this
    omega
  · unfold nameD at h
    rw [Bool.and_eq_true, decide_eq_true_eq] at h
    exact h.2.2
theorem may_true {k t : Int} {a b : ByteArray} (h : mayD k t a b = true) : 1 ≤ k ∧ k ≤ 14 ∧ 0 ≤ t ∧ t ≤ 1099511627776 ∧ nmD a = true ∧ nmD b = true := by
  unfold mayD at h
  simp only [Bool.and_eq_true, decide_eq_true_eq] at h
  exact ⟨h.1.1.1.1, h.1.1.1.2, h.1.1.2.1, h.1.1.2.2, h.1.2, h.2⟩

section
variable (k t : Int) (a b : ByteArray) (w : World)
end
end Go.Proofs.YtppnlijeonneeaaDoor
