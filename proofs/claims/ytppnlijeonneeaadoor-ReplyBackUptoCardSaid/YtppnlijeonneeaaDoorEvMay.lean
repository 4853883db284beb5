/- Events: names that may be empty, which events may be. -/
import Derived.Test.YtppnlijeonneeaaDoorEvWord
namespace Go.Proofs.YtppnlijeonneeaaDoor
open Go Go.RowKit

/-- Is it empty, or a name? -/
def nmD (s : ByteArray) : Bool := s.toList.isEmpty || nameD s
theorem wordsL_empty : ∀ n : Nat, n < 15 → (wordsL.getD n ⟨#[]⟩).data.toList.isEmpty = !decide (1 ≤ n)
  | 0, _ => rfl | 1, _ => rfl | 2, _ => rfl | 3, _ => rfl | 4, _ => rfl | 5, _ => rfl | 6, _ => rfl | 7, _ => rfl | 8, _ => rfl | 9, _ => rfl | 10, _ => rfl | 11, _ => rfl | 12, _ => rfl | 13, _ => rfl | 14, _ => rfl
  | k + 15, h => by omega
theorem word_empty (k : Int) : (wordD k).toList.isEmpty = !decide (1 ≤ k ∧ k ≤ 14) := by
  rw [ByteArray.toList_eq]
  unfold wordD
  split
  · rw [decide_eq_false (by omega)]; rfl
  · obtain ⟨n, rfl⟩ : ∃ n : Nat, k = n := ⟨k.toNat, by omega⟩
    rw [Int.toNat_natCast]
    by_cases h : n < 15
    · rw [wordsL_empty n h]
      congr 1
      apply decide_eq_decide.2
      omega
    · rw [List.getD_eq_getElem?_getD, List.getElem?_eq_none (by simp [wordsL]; omega), decide_eq_false (by omega)]
      rfl

/-- May this event be? -/
def mayD (k t : Int) (a b : ByteArray) : Bool := decide (1 ≤ k ∧ k ≤ 14) && decide (0 ≤ t ∧ t ≤ 1099511627776) && nmD a && nmD b
abbrev evC (k t : Int) (a b : ByteArray) : Array Value := #[.int .i64 k, .int .i64 t, .string a, .string b]
abbrev evV (k t : Int) (a b : ByteArray) : Value := .agg (evC k t a b)
theorem four_cells {W : World} {g : Nat} {T : TypeId} {x0 x1 x2 x3 : Value} (h : Blk W g T #[x0, x1, x2, x3]) : W.cell? ⟨g, 0, none⟩ = some x0 ∧ W.cell? ⟨g, 1, none⟩ = some x1 ∧ W.cell? ⟨g, 2, none⟩ = some x2 ∧ W.cell? ⟨g, 3, none⟩ = some x3 :=
  ⟨h.cell 0, h.cell 1, h.cell 2, h.cell 3⟩
/-- The ways of an event: the first thing that is wrong. -/
theorem may_ways (k t : Int) (a b : ByteArray) : (mayD k t a b = false ∧ ¬ (1 ≤ k ∧ k ≤ 14)) ∨ (mayD k t a b = false ∧ (1 ≤ k ∧ k ≤ 14) ∧ t < 0) ∨ (mayD k t a b = false ∧ (1 ≤ k ∧ k ≤ 14) ∧ 0 ≤ t ∧ 1099511627776 < t) ∨
    (mayD k t a b = false ∧ (1 ≤ k ∧ k ≤ 14) ∧ 0 ≤ t ∧ t ≤ 1099511627776 ∧ nmD a = false) ∨ (mayD k t a b = false ∧ (1 ≤ k ∧ k ≤ 14) ∧ 0 ≤ t ∧ t ≤ 1099511627776 ∧ nmD a = true ∧ nmD b = false) ∨
    (mayD k t a b = true ∧ (1 ≤ k ∧ k ≤ 14) ∧ 0 ≤ t ∧ t ≤ 1099511627776 ∧ nmD a = true ∧ nmD b = true) := by
  unfold mayD
  cases nmD a <;> cases nmD b <;> simp <;> omega

end Go.Proofs.YtppnlijeonneeaaDoor
