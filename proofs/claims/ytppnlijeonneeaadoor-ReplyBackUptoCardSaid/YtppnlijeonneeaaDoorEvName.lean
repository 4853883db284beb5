/- Names: inode.letter, inode.Name, the reference's Name. -/
import Derived.Test.YtppnlijeonneeaaDoorBase
import Derived.Test.YtppnlijeonneeaaDoorShelf2
import Derived.Laws.RangeString
import Derived.Laws.RangeAny
import Derived.LoopTactic
import Derived.Lib.Hide
namespace Go.Proofs.YtppnlijeonneeaaDoor
open Go Go.RowKit

/-- May this letter stand in a name? -/
def letD (c : Nat) : Bool := decide ((97 ≤ c ∧ c ≤ 122) ∨ (48 ≤ c ∧ c ≤ 57) ∨ c = 46 ∨ c = 45 ∨ c = 95)
def lettersD (s : ByteArray) : Bool := s.data.toList.all fun b => letD b.toNat
/-- Is it a name? -/
def nameD (s : ByteArray) : Bool := lettersD s && decide (1 ≤ s.size ∧ s.size ≤ 16)

theorem letters_iff (s : ByteArray) : lettersD s = true ↔ ∀ i (h : i < s.size), letD (s[i]'h).toNat = true := by
  unfold lettersD
  rw [List.all_eq_true]
  constructor
  · intro h i hi
    exact h _ (by
      have : i < s.data.toList.length := by simpa using hi
      have e : s.data.toList[i] = s[i] := by simp [ByteArray.getElem_eq_getElem_data]
      rw [← e]; exact List.getElem_mem _)
  · intro h b hb
    obtain ⟨i, hi, rfl⟩ := List.getElem_of_mem hb
    have := h i (by simpa using hi)
    simpa [ByteArray.getElem_eq_getElem_data] using this

theorem idx_from (s : ByteArray) : ∀ (f pos : Nat), s.size ≤ pos + f → (Lib.idxFuncFrom (fun c => !letD c) true s f pos < 0 ↔ ∀ i (h : i < s.size), pos ≤ i → letD (s[i]'h).toNat = true)
  | 0, pos, hf => by
    simp only [Lib.idxFuncFrom]
    exact ⟨fun _ i h hi => by omega, fun _ => by omega⟩
  | f + 1, pos, hf => by
    unfold Lib.idxFuncFrom
    split
    · rename_i hp
      by_cases ha : (s[pos]'hp).toNat < 128
      · rw [decode_ascii s pos hp ha]
        dsimp only
        cases hl : letD (s[pos]'hp).toNat with
        | true =>
          rw [if_neg (by simp), idx_from s f (pos + 1) (by omega)]
          constructor
          · intro h i hi hpi
            rcases Nat.eq_or_lt_of_le hpi with rfl | h'
            · exact hl
            · exact h i hi (by omega)
          · intro h i hi hpi
            exact h i hi (by omega)
        | false =>
          rw [if_pos (by simp)]
          constructor
          · intro h; omega
          · intro h
            rw [h pos hp (Nat.le_refl _)] at hl
            cases hl
      · have hd := decode_high s pos hp (by omega)
        have h1 : letD (Utf8.decode s pos).1 = false := by simp [letD]; omega
        have h2 : letD (s[pos]'hp).toNat = false := by simp [letD]; omega
        rw [h1, if_pos (by simp)]
        constructor
        · intro h; omega
        · intro h
          rw [h pos hp (Nat.le_refl _)] at h2
          cases h2
    · exact ⟨fun _ i h hi => by omega, fun _ => by omega⟩
theorem idx_letters (s : ByteArray) : Lib.idxFunc (fun c => !letD c) true s < 0 ↔ lettersD s = true := by
  unfold Lib.idxFunc
  rw [idx_from s s.size 0 (by omega), letters_iff]
  exact ⟨fun h i hi => h i hi (by omega), fun h i hi _ => h i hi⟩

set_option maxRecDepth 100000 in
theorem letter_any (c : Nat) (w : World) : Calls Tryd.prog 82 #[.int .i32 c] w fun e w' => e = .returned (.bool (letD c)) ∧ w = w' := by
  rcases (by omega : c < 45 ∨ c = 45 ∨ c = 46 ∨ c = 47 ∨ (48 ≤ c ∧ c ≤ 57) ∨ (57 < c ∧ c < 95) ∨ c = 95 ∨ c = 96 ∨ (97 ≤ c ∧ c ≤ 122) ∨ 122 < c) with h | h | h | h | h | h | h | h | h | h
  all_goals
    go_enter Tryd.func82, Tryd.ntmps82
    go_wp2
    go_ret
    refine ⟨ret_bool ?_, rfl⟩
    simp only [letD]
    first
      | (rw [eq_comm, decide_eq_true_eq]; omega)
      | (rw [eq_comm, decide_eq_false_iff_not]; omega)
      | (rw [Bool.eq_iff_iff]; simp only [Bool.or_eq_true, decide_eq_true_eq, beq_iff_eq]; omega)

set_option maxRecDepth 100000 in
theorem notletter_any (c : Nat) (w : World) : Calls Tryd.prog 81 #[.int .i32 c] w fun e w' => e = .returned (.bool (!letD c)) ∧ w = w' := by
  go_enter Tryd.func81, Tryd.ntmps81
  go_wp2_with (go_at_call 82; (with_reducible refine (letter_any _ _).mono ?_); rintro e w1 ⟨rfl, rfl⟩)
  go_ret
  exact ⟨rfl, rfl⟩

theorem name_pred (w : World) : PredGrows Tryd.prog 81 #[] (fun c => !letD c) w := fun W x _ _ => (notletter_any x W).mono fun _ _ h => ⟨h.1, h.2 ▸ Below.refl _ _⟩

set_option maxRecDepth 100000 in
theorem name_any (s : ByteArray) (w : World) (hs : s.size ≤ 140737488351232) : Calls Tryd.prog 54 #[.string s] w fun e w' => e = .returned (.bool (nameD s)) ∧ Below w.heap.size w w' := by
  have cF := fun W => Tryd.strings_IndexFunc_grows 81 #[] (enters_of Tryd.func81 (by kernel_rfl) rfl) (fun c => !letD c) s W (name_pred W)
  have hL := idx_letters s
  generalize Lib.idxFunc (fun c => !letD c) true s = x at cF hL
  have HL := Lib.hid hL
  clear hL
  rcases (by omega : x < 0 ∧ s.size < 1 ∨ x < 0 ∧ 1 ≤ s.size ∧ s.size ≤ 16 ∨ x < 0 ∧ 16 < s.size ∨ 0 ≤ x) with h | h | h | h
  all_goals
    go_enter Tryd.func54, Tryd.ntmps54
    go_wp2_with (go_at_call 80; (with_reducible refine (cF _).mono ?_); rintro e w1 ⟨rfl, hb1⟩)
    go_ret
    refine ⟨ret_bool ?_, hb1⟩
    unfold nameD
    rw [Bool.eq_iff_iff]
    simp only [Bool.and_eq_true, decide_eq_true_eq, ← HL.out, true_iff, Bool.false_eq_true, false_iff]
    omega

set_option maxRecDepth 100000 in
set_option maxHeartbeats 2000000 in
theorem refname_any (s : ByteArray) (w : World) (hs : s.size ≤ 140737488351232) : Calls Tryd.prog 42 #[.string s] w fun e w' => e = .returned (.bool (nameD s)) ∧ w = w' := by
  go_enter Tryd.func42, Tryd.ntmps42
  go_wp2
  go_loop [3] (fun v3 => ∃ k : Nat, v3 = .int .i64 k ∧ k ≤ s.size ∧ ∀ i (h : i < s.size), i < k → letD (s[i]'h).toNat = true) (fun v3 => s.size - (intOf v3).toNat)
  case atStart => exact ⟨0, rfl, by omega, fun i _ h => by omega⟩
  case round =>
    obtain ⟨k, rfl, hk, hA⟩ := hrel
    have H := Lib.hid hA
    clear hA
    by_cases hp : k < s.size
    · have hN : letD (s[k]'hp).toNat = true → ∀ i (h : i < s.size), i < k + 1 → letD (s[i]'h).toNat = true := fun hc i h hi => by
        rcases Nat.eq_or_lt_of_le (Nat.le_of_lt_succ hi) with rfl | h'
        · exact hc
        · exact H.out i h h'
      have hB : letD (s[k]'hp).toNat = false → nameD s = false := fun hc => by
        have : lettersD s ≠ true := fun h => by
          rw [(letters_iff s).1 h k hp] at hc
          cases hc
        simp [nameD, this]
      have HN := Lib.hid hN
      have HB := Lib.hid hB
      clear hN hB
      rcases (by omega : (s[k]'hp).toNat < 45 ∨ (s[k]'hp).toNat = 45 ∨ (s[k]'hp).toNat = 46 ∨ (s[k]'hp).toNat = 47 ∨ (48 ≤ (s[k]'hp).toNat ∧ (s[k]'hp).toNat ≤ 57) ∨ (57 < (s[k]'hp).toNat ∧ (s[k]'hp).toNat < 95) ∨ (s[k]'hp).toNat = 95 ∨ (s[k]'hp).toNat = 96 ∨ (97 ≤ (s[k]'hp).toNat ∧ (s[k]'hp).toNat ≤ 122) ∨ 122 < (s[k]'hp).toNat) with h | h | h | h | h | h | h | h | h | h
      all_goals
        go_wp2
        all_goals first
          | (exfalso; omega)
          | (exfalso; rename_i hx; revert hx; simp only [Bool.and_eq_false_iff, bne_eq_false_iff_eq]; omega)
          | (go_ret; exact ⟨ret_bool (HB.out (by simp only [letD, decide_eq_false_iff_not]; omega)).symm, rfl⟩)
          | (go_round
             case rel => exact ⟨k + 1, by go_num, by omega, HN.out (by simp only [letD, decide_eq_true_eq]; omega)⟩
             case measure => simp [intOf]; omega)
    · obtain rfl : k = s.size := by omega
      have HL := Lib.hid ((letters_iff s).2 fun i h => H.out i h h)
      rcases (by omega : s.size < 1 ∨ 1 ≤ s.size ∧ s.size ≤ 16 ∨ 16 < s.size) with h | h | h
      all_goals
        go_wp2
        all_goals (try (exfalso; omega))
        go_ret
        refine ⟨ret_bool ?_, rfl⟩
        unfold nameD
        rw [HL.out]
        rw [Bool.eq_iff_iff]
        simp only [Bool.true_and, decide_eq_true_eq, true_iff, Bool.false_eq_true, false_iff]
        omega
end Go.Proofs.YtppnlijeonneeaaDoor
