/- The law SpanBack: plain laws and the walk. -/
import Derived.Test.YtogpmihepfnoaaaGreatDoorSpanL
namespace Go.Proofs.YtogpmihepfnoaaaGreatDoor
open Go Go.RowKit Go.Sort

theorem nDigits_mono : ∀ (b a : Nat), a ≤ b → Lib.nDigits a ≤ Lib.nDigits b := by
  intro b
  induction b using Nat.strongRecOn with
  | _ b ih =>
    intro a h
    by_cases hb : b < 10
    · rw [Lib.nDigits_small hb, Lib.nDigits_small (by omega)]; omega
    · rw [Lib.nDigits_big hb]
      by_cases ha : a < 10
      · rw [Lib.nDigits_small ha]; omega
      · rw [Lib.nDigits_big ha]
        have := ih (b / 10) (by omega) (a / 10) (by omega)
        omega
theorem itoa_len (n : Int) (h : 0 ≤ n) : (Lib.itoa n).length = Lib.nDigits n.toNat := by
  rw [Lib.itoa, if_neg (by omega), Lib.decDigits_length]
theorem itoa_mono (a b : Int) (h0 : 0 ≤ a) (h : a ≤ b) : (Lib.itoa a).length ≤ (Lib.itoa b).length := by
  rw [itoa_len a h0, itoa_len b (by omega)]
  exact nDigits_mono _ _ (by omega)

theorem num_itoa (k : Int) (h0 : 0 ≤ k) (h1 : k ≤ 1048576) : numD (Lib.itoa k) 7 = k := by
  obtain ⟨m, rfl⟩ : ∃ m : Nat, k = m := ⟨k.toNat, by omega⟩
  rw [Lib.itoa_nonneg]
  have h7 := decDigits_le 6 m (by omega)
  have hp : 1 ≤ (Lib.decDigits m).length := by rw [Lib.decDigits_length]; exact Lib.nDigits_pos _
  have hh := digits_head m
  rw [numD, if_neg, decFrom_digits]
  rintro (h | h | ⟨h, h'⟩)
  · omega
  · omega
  · exact hh h h'

/-- The unit's letter, and how many of it. -/
theorem text_form (n : Int) (h0 : 0 ≤ n) (h1 : n ≤ 1048576) : ∃ (k : Int) (c : UInt8), textD n = Lib.itoa k ++ [c] ∧ 0 ≤ k ∧ k ≤ 1048576 ∧ k * unitD (c.toNat : Int) = n ∧ 1 ≤ unitD (c.toNat : Int) := by
  unfold textD
  rw [if_neg (by omega)]
  split
  · refine ⟨0, 100, ?_, by omega, by omega, by subst n; rfl, by decide⟩
    rw [show (0 : Int) = ((0 : Nat) : Int) from rfl, one_itoa 0 (by omega)]; rfl
  · split
    · exact ⟨n / 365, 121, rfl, by omega, by omega, by rw [show unitD ((121 : UInt8).toNat : Int) = 365 from rfl]; omega, by decide⟩
    · split
      · exact ⟨n / 30, 109, rfl, by omega, by omega, by rw [show unitD ((109 : UInt8).toNat : Int) = 30 from rfl]; omega, by decide⟩
      · split
        · exact ⟨n / 7, 119, rfl, by omega, by omega, by rw [show unitD ((119 : UInt8).toNat : Int) = 7 from rfl]; omega, by decide⟩
        · exact ⟨n, 100, rfl, by omega, by omega, by rw [show unitD ((100 : UInt8).toNat : Int) = 1 from rfl]; omega, by decide⟩

theorem text_nil (n : Int) (h : n < 0 ∨ 1048576 < n) : textD n = [] := by rw [textD, if_pos h]
theorem text_size (n : Int) (h0 : 0 ≤ n) (h1 : n ≤ 1048576) : 2 ≤ (textD n).length ∧ (textD n).length ≤ 8 := by
  obtain ⟨k, c, e, a, b, _, _⟩ := text_form n h0 h1
  rw [e, List.length_append, itoa_len k a]
  have h7 := decDigits_le 6 k.toNat (by omega)
  rw [Lib.decDigits_length] at h7
  have := Lib.nDigits_pos k.toNat
  simp
  omega

theorem back_1 (n : Int) (h0 : 0 ≤ n) (h1 : n ≤ 1048576) : parseN (str (textD n)) = (n, 0) := by
  obtain ⟨k, c, e, a, b, hk, hu⟩ := text_form n h0 h1
  have hs : (str (textD n)).size = (textD n).length := rfl
  obtain ⟨s2, s8⟩ := text_size n h0 h1
  have hl : (str (textD n)).data.toList = Lib.itoa k ++ [c] := by rw [e]; rfl
  have hsz : (str (textD n)).size - 1 = (Lib.itoa k).length := by rw [hs, e]; simp
  have hlast : lastD (str (textD n)) = (c.toNat : Int) := by
    unfold lastD
    rw [hl, hsz, List.getD_eq_getElem?_getD, List.getElem?_append_right (Nat.le_refl _)]
    simp
  have htake : (str (textD n)).data.toList.take ((str (textD n)).size - 1) = Lib.itoa k := by
    rw [hl, hsz, List.take_left']
    rfl
  rw [parseN, hlast, htake, num_itoa k a b, if_neg (by omega), daysD, daysU, if_neg (by omega), if_neg]
  · rw [hk]
  · rcases unitD_cases (c.toNat : Int) with h | h | h | h | h <;> rw [h] at hk ⊢ <;> omega

/-- The unit that a span is told in is the greatest that it can be. -/
theorem text_short (v u : Int) (hv : 0 ≤ v) (hu : u = 1 ∨ u = 7 ∨ u = 30 ∨ u = 365) (hm : v * u ≤ 1048576) : (textD (v * u)).length ≤ (Lib.itoa v).length + 1 := by
  have hp : 1 ≤ (Lib.itoa v).length := by rw [itoa_len v hv]; exact Lib.nDigits_pos _
  have h0 : 0 ≤ v * u := by rcases hu with rfl | rfl | rfl | rfl <;> omega
  unfold textD
  rw [if_neg (by omega)]
  split
  · simp; omega
  · split
    · have := itoa_mono (v * u / 365) v (by omega) (by rcases hu with rfl | rfl | rfl | rfl <;> omega)
      simp; omega
    · split
      · have := itoa_mono (v * u / 30) v (by omega) (by rcases hu with rfl | rfl | rfl | rfl <;> omega)
        simp; omega
      · split
        · have := itoa_mono (v * u / 7) v (by omega) (by rcases hu with rfl | rfl | rfl | rfl <;> omega)
          simp; omega
        · have := itoa_mono (v * u) v (by omega) (by rcases hu with rfl | rfl | rfl | rfl <;> omega)
          simp; omega

theorem back_2 (s : ByteArray) (h : (parseN s).2 = 0) : 0 ≤ (parseN s).1 ∧ (parseN s).1 ≤ 1048576 ∧ (textD (parseN s).1).length ≤ s.size := by
  have hd := parse_num s
  unfold parseN at *
  split at h
  · simp at h
  · rename_i hc
    rw [if_neg hc] at hd ⊢
    have h2 : 2 ≤ s.size := by omega
    have hlen : (s.data.toList.take (s.size - 1)).length = s.size - 1 := by simp
    have h8 : s.size ≤ 8 := by
      by_cases h8 : s.size ≤ 8
      · exact h8
      · exfalso
        apply hc
        right; right
        rw [numD, if_pos (by omega)]
        omega
    rcases atoi_num (s.data.toList.take (s.size - 1)) (by omega) (by omega) with ⟨v, ha, hi, hn⟩ | ⟨ha, hn⟩
    · rw [hn] at hc h ⊢
      unfold daysD daysU at h ⊢
      have hu := unitD_cases (lastD s)
      have hu0 : ¬ unitD (lastD s) = 0 := by omega
      rw [if_neg (by omega)] at h ⊢
      split at h
      · simp at h
      · rename_i hq
        rw [if_neg hq]
        dsimp only
        have hl : (Lib.itoa (v : Int)).length = s.size - 1 := by rw [hi, hlen]
        have hm : (v : Int) * unitD (lastD s) ≤ 1048576 := by
          rcases hu with e | e | e | e | e <;> rw [e] at hq ⊢ <;> omega
        have hs := text_short v (unitD (lastD s)) (by omega) (by omega) hm
        refine ⟨?_, hm, by omega⟩
        rcases hu with e | e | e | e | e <;> rw [e] <;> omega
    · exfalso
      apply hc
      right; right
      rw [hn]
      omega

end Go.Proofs.YtogpmihepfnoaaaGreatDoor
