/- Events: names that may be empty, which events may be. -/
import Derived.Test.YteoidkjiigjlaaaDoorEvWord
namespace Go.Proofs.YteoidkjiigjlaaaDoor
open Go Go.RowKit

/-- Is it empty, or a name? -/
def nmD (s : ByteArray) : Bool := s.toList.isEmpty || nameD s
set_option maxRecDepth 100000 in
theorem evname_any (s : ByteArray) (w : World) (hs : s.size ≤ 140737488351232) : Calls Tryd.prog 48 #[.string s] w fun e w' => e = .returned (.bool (nmD s)) ∧ Gr w w' := by
  cases hE : s.toList.isEmpty
  all_goals
    go_enter Tryd.func48, Tryd.ntmps48
    go_wp2_with (go_at_call 71; (with_reducible refine (name_any s _ hs).mono ?_); rintro e w1 ⟨rfl, hb1⟩)
    go_ret
    first
      | exact ⟨ret_bool (by simp [nmD, hE]), hb1⟩
      | exact ⟨ret_bool (by simp [nmD, hE]), Gr.refl _⟩
set_option maxRecDepth 100000 in
theorem refevname_any (s : ByteArray) (w : World) (hs : s.size ≤ 140737488351232) : Calls Tryd.prog 69 #[.string s] w fun e w' => e = .returned (.bool (nmD s)) ∧ w = w' := by
  cases hE : s.toList.isEmpty
  all_goals
    go_enter Tryd.func69, Tryd.ntmps69
    go_wp2_with (go_at_call 95; (with_reducible refine (refname_any s _ hs).mono ?_); rintro e w1 ⟨rfl, rfl⟩)
    go_ret
    exact ⟨ret_bool (by simp [nmD, hE]), rfl⟩

theorem wordsL_empty : ∀ n : Nat, n < 15 → (wordsL.getD n ⟨#[]⟩).data.toList.isEmpty = !decide (1 ≤ n)
  | 0, _ => rfl | 1, _ => rfl | 2, _ => rfl | 3, _ => rfl | 4, _ => rfl | 5, _ => rfl | 6, _ => rfl | 7, _ => rfl | 8, _ => rfl | 9, _ => rfl | 10, _ => rfl | 11, _ => rfl | 12, _ => rfl | 13, _ => rfl | 14, _ => rfl
  | k + 15, h => by omega
theorem word_empty (k : Int) : (wordD k).toList.isEmpty = !decide (1 ≤ k ∧ k ≤ 14) := by
  rw [ByteArray.toList_eq]
  unfold wordD
  split
  · rw [decide_eq_false (by omega)]; rfl
  · obtain ⟨n, rfl⟩ : ∃ n : Nat, k = n := ⟨k.toNat, by omega⟩
    rw [Int.toNat_natCast]
    by_cases h : n < 15
    · rw [wordsL_empty n h]
      congr 1
      apply decide_eq_decide.2
      omega
    · rw [List.getD_eq_getElem?_getD, List.getElem?_eq_none (by simp [wordsL]; omega), decide_eq_false (by omega)]
      rfl

/-- May this event be? -/
def mayD (k t : Int) (a b : ByteArray) : Bool := decide (1 ≤ k ∧ k ≤ 14) && decide (0 ≤ t ∧ t ≤ 1099511627776) && nmD a && nmD b
abbrev evC (k t : Int) (a b : ByteArray) : Array Value := #[.int .i64 k, .int .i64 t, .string a, .string b]
abbrev evV (k t : Int) (a b : ByteArray) : Value := .agg (evC k t a b)
theorem four_cells {W : World} {g : Nat} {T : TypeId} {x0 x1 x2 x3 : Value} (h : Blk W g T #[x0, x1, x2, x3]) : W.cell? ⟨g, 0, none⟩ = some x0 ∧ W.cell? ⟨g, 1, none⟩ = some x1 ∧ W.cell? ⟨g, 2, none⟩ = some x2 ∧ W.cell? ⟨g, 3, none⟩ = some x3 :=
  ⟨h.cell 0, h.cell 1, h.cell 2, h.cell 3⟩
/-- The ways of an event: the first thing that is wrong. -/
theorem may_ways (k t : Int) (a b : ByteArray) : (mayD k t a b = false ∧ ¬ (1 ≤ k ∧ k ≤ 14)) ∨ (mayD k t a b = false ∧ (1 ≤ k ∧ k ≤ 14) ∧ t < 0) ∨ (mayD k t a b = false ∧ (1 ≤ k ∧ k ≤ 14) ∧ 0 ≤ t ∧ 1099511627776 < t) ∨
    (mayD k t a b = false ∧ (1 ≤ k ∧ k ≤ 14) ∧ 0 ≤ t ∧ t ≤ 1099511627776 ∧ nmD a = false) ∨ (mayD k t a b = false ∧ (1 ≤ k ∧ k ≤ 14) ∧ 0 ≤ t ∧ t ≤ 1099511627776 ∧ nmD a = true ∧ nmD b = false) ∨
    (mayD k t a b = true ∧ (1 ≤ k ∧ k ≤ 14) ∧ 0 ≤ t ∧ t ≤ 1099511627776 ∧ nmD a = true ∧ nmD b = true) := by
  unfold mayD
  cases nmD a <;> cases nmD b <;> simp <;> omega

set_option maxRecDepth 100000 in
set_option maxHeartbeats 2000000 in
theorem check_any (k t : Int) (a b : ByteArray) (w : World) (hk : k ≤ 9223372036854775807) (ha : a.size ≤ 140737488351232) (hb : b.size ≤ 140737488351232) :
    Calls Tryd.prog 15 #[evV k t a b] w fun e w' => e = .returned (.int .i64 (if mayD k t a b then 0 else 1)) ∧ Gr w w' := by
  have hW := word_empty k
  unfold evV evC
  rcases may_ways k t a b with ⟨hm, h⟩ | ⟨hm, h, h1⟩ | ⟨hm, h, h1, h2⟩ | ⟨hm, h, h1, h2, h3⟩ | ⟨hm, h, h1, h2, h3, h4⟩ | ⟨hm, h, h1, h2, h3, h4⟩
  all_goals
    rw [hm]
    first
      | rw [decide_eq_true h] at hW
      | rw [decide_eq_false h] at hW
    simp only [Bool.not_true, Bool.not_false, Bool.false_eq_true, if_true, if_false] at hW ⊢
    clear hm
    have hc := fun W => word_any k W hk
    generalize wordD k = x at hc hW
    go_enter Tryd.func15, Tryd.ntmps15
    go_wp2_with (first
      | (go_at_call 47; (with_reducible refine (hc _).mono ?_); rintro e w1 ⟨rfl, hb1⟩
         have hG := Gr.trans (Gr.alloc w _) hb1
         have hB1 := (Blk.new w _ _).below hb1 (Blk.new w _ _).lt
         obtain ⟨c10, c11, c12, c13⟩ := four_cells hB1)
      | (go_at_call 48; (with_reducible refine (evname_any a _ ha).mono ?_); rintro e w2 ⟨rfl, hb2⟩
         have hG := Gr.trans hG hb2
         have hB2 := hB1.below hb2 hB1.lt
         obtain ⟨c20, c21, c22, c23⟩ := four_cells hB2)
      | (go_at_call 48; (with_reducible refine (evname_any b _ hb).mono ?_); rintro e w3 ⟨rfl, hb3⟩
         have hG := Gr.trans hG hb3))
    go_ret
    exact ⟨rfl, hG⟩
set_option maxRecDepth 100000 in
set_option maxHeartbeats 2000000 in
theorem refmay_any (k t : Int) (a b : ByteArray) (w : World) (ha : a.size ≤ 140737488351232) (hb : b.size ≤ 140737488351232) :
    Calls Tryd.prog 44 #[evV k t a b] w fun e w' => e = .returned (.bool (mayD k t a b)) ∧ Gr w w' := by
  unfold evV evC
  obtain ⟨c0, c1, c2, c3⟩ := four_cells (Blk.new w 23 #[.int .i64 k, .int .i64 t, .string a, .string b])
  rcases may_ways k t a b with ⟨hm, h⟩ | ⟨hm, h, h1⟩ | ⟨hm, h, h1, h2⟩ | ⟨hm, h, h1, h2, h3⟩ | ⟨hm, h, h1, h2, h3, h4⟩ | ⟨hm, h, h1, h2, h3, h4⟩
  all_goals (rcases (by omega : k < 1 ∨ 1 ≤ k ∧ 14 < k ∨ 1 ≤ k ∧ k ≤ 14) with h0 | h0 | h0)
  all_goals (try (exfalso; omega))
  all_goals
    rw [hm]
    clear hm
    go_enter Tryd.func44, Tryd.ntmps44
    go_wp2_with (first
      | (go_at_call 69; (with_reducible refine (refevname_any a _ ha).mono ?_); rintro e w2 ⟨rfl, rfl⟩)
      | (go_at_call 69; (with_reducible refine (refevname_any b _ hb).mono ?_); rintro e w3 ⟨rfl, rfl⟩))
    all_goals (try (exfalso; omega))
    go_ret
    exact ⟨rfl, Gr.alloc _ _⟩
end Go.Proofs.YteoidkjiigjlaaaDoor
