/- Numbers as digits: plain laws. -/
import Derived.Test.YtppnlijeonneeaaDoorSpanP
import Derived.Lib.AtoiTie
namespace Go.Proofs.YtppnlijeonneeaaDoor
open Go

theorem digitVal_of {c : UInt8} {d : Nat} (h : Lib.digitVal c = some d) : c = UInt8.ofNat (48 + d) ∧ d < 10 := by
  obtain ⟨h1, h2, h3⟩ := Lib.digitVal_eq h
  refine ⟨?_, by omega⟩
  apply UInt8.toNat_inj.mp
  rw [UInt8.toNat_ofNat']
  omega
theorem digitVal_digit (d : Nat) (h : d < 10) : Lib.digitVal (UInt8.ofNat (48 + d)) = some d := by
  have : ∀ d, d < 10 → Lib.digitVal (UInt8.ofNat (48 + d)) = some d := by decide
  exact this d h
theorem decFrom_snoc (l : List UInt8) : ∀ (acc : Nat) (c : UInt8), Lib.decFrom acc (l ++ [c]) = (Lib.decFrom acc l).bind fun m => (Lib.digitVal c).map fun d => m * 10 + d := by
  induction l with
  | nil =>
    intro acc c
    simp only [List.nil_append, Lib.decFrom]
    cases Lib.digitVal c <;> rfl
  | cons a t ih =>
    intro acc c
    simp only [List.cons_append, Lib.decFrom]
    cases Lib.digitVal a with
    | none => rfl
    | some d => exact ih _ c
theorem decFrom_digits (n : Nat) : Lib.decFrom 0 (Lib.decDigits n) = some n := by
  induction n using Nat.strongRecOn with
  | _ n ih =>
    rw [Lib.decDigits]
    split
    · rename_i h
      simp only [Lib.decFrom, digitVal_digit n h]
      simp
    · rw [decFrom_snoc, ih (n / 10) (by omega), digitVal_digit _ (Nat.mod_lt _ (by omega))]
      simp
      omega
theorem rev_ind {α : Type} {p : List α → Prop} (h0 : p []) (h1 : ∀ l a, p l → p (l ++ [a])) (l : List α) : p l := by
  have : ∀ r : List α, p r.reverse := by
    intro r
    induction r with
    | nil => exact h0
    | cons a t ih => rw [List.reverse_cons]; exact h1 _ _ ih
  have := this l.reverse
  rwa [List.reverse_reverse] at this
theorem digits_of (l : List UInt8) : ∀ n, l ≠ [] → Lib.decFrom 0 l = some n → (1 < l.length → l.head? ≠ some 48) → l = Lib.decDigits n := by
  refine rev_ind (p := fun l => ∀ n, l ≠ [] → Lib.decFrom 0 l = some n → (1 < l.length → l.head? ≠ some 48) → l = Lib.decDigits n) (fun n h => absurd rfl h) ?_ l
  · intro l c ih n _ h hd
    rw [decFrom_snoc] at h
    cases hm : Lib.decFrom 0 l with
    | none => rw [hm] at h; cases h
    | some m =>
      rw [hm] at h
      cases hc : Lib.digitVal c with
      | none => rw [hc] at h; cases h
      | some d =>
        rw [hc] at h
        obtain ⟨rfl, hd10⟩ := digitVal_of hc
        have hn : m * 10 + d = n := by simpa using h
        by_cases hl : l = []
        · subst hl
          have : m = 0 := by simpa [Lib.decFrom] using hm.symm
          subst this
          rw [Lib.decDigits, dif_pos (by omega)]
          simp
          rw [show n = d by omega]
        · have hl1 : 1 ≤ l.length := by
            cases l with
            | nil => exact absurd rfl hl
            | cons => simp
          have hh : l.head? ≠ some 48 := by
            have := hd (by simp; omega)
            cases l with
            | nil => exact absurd rfl hl
            | cons a t => simpa using this
          have e := ih m hl hm (fun _ => hh)
          have hm0 : m ≠ 0 := by
            rintro rfl
            apply hh
            rw [e, Lib.decDigits, dif_pos (by omega)]
            rfl
          rw [Lib.decDigits, dif_neg (by omega), show n / 10 = m by omega, show n % 10 = d by omega, ← e]
theorem digits_head (n : Nat) : 1 < (Lib.decDigits n).length → (Lib.decDigits n).head? ≠ some 48 := by
  induction n using Nat.strongRecOn with
  | _ n ih =>
    intro h
    rw [Lib.decDigits] at h ⊢
    split at h
    · simp at h
    · rename_i hn
      rw [dif_neg hn]
      by_cases h10 : n / 10 < 10
      · rw [Lib.decDigits, dif_pos h10]
        have : ∀ k, k < 10 → 1 ≤ k → (UInt8.ofNat (48 + k)) ≠ 48 := by decide
        simpa using this (n / 10) h10 (by omega)
      · have h2 : 1 < (Lib.decDigits (n / 10)).length := by
          rw [Lib.decDigits, dif_neg h10]
          have : 0 < (Lib.decDigits (n / 10 / 10)).length := by rw [Lib.decDigits_length]; exact Lib.nDigits_pos _
          simp; omega
        have := ih (n / 10) (by omega) h2
        intro e
        apply this
        cases hq : Lib.decDigits (n / 10) with
        | nil => rw [hq] at h2; simp at h2
        | cons a t => rw [hq] at e; simpa using e

/-- The number of digits, at most so many; -1: they are none. -/
def numD (l : List UInt8) (most : Int) : Int :=
  if (l.length : Int) < 1 ∨ most < l.length ∨ (1 < l.length ∧ l.head? = some 48) then -1 else
  match Lib.decFrom 0 l with
  | some n => n
  | none => -1

theorem atoi_num (l : List UInt8) (h1 : 1 ≤ l.length) (h7 : l.length ≤ 7) :
    (∃ v : Nat, Lib.atoiAll l = .ok v ∧ Lib.itoa v = l ∧ numD l 7 = v) ∨ ((∀ v : Int, Lib.atoiAll l = .ok v → v < 0 ∨ Lib.itoa v ≠ l) ∧ numD l 7 = -1) := by
  by_cases hz : 1 < l.length ∧ l.head? = some 48
  · right
    refine ⟨fun v hv => ?_, by rw [numD, if_pos (.inr (.inr hz))]⟩
    by_cases h0 : v < 0
    · exact .inl h0
    · right
      intro e
      rw [Lib.itoa, if_neg h0] at e
      exact digits_head v.toNat (by rw [e]; exact hz.1) (by rw [e]; exact hz.2)
  · have hno : ¬ ((l.length : Int) < 1 ∨ (7 : Int) < l.length ∨ (1 < l.length ∧ l.head? = some 48)) := by
      rintro (h | h | h)
      · omega
      · omega
      · exact hz h
    cases hd : Lib.decFrom 0 l with
    | some n =>
      left
      have e := digits_of l n (by rintro rfl; simp at h1) hd (by intro h e; exact hz ⟨h, e⟩)
      refine ⟨n, ?_, by rw [Lib.itoa_nonneg]; exact e.symm, by rw [numD, if_neg hno, hd]⟩
      have hlt := Lib.decFrom_lt18 hd (by omega)
      have hm : Lib.parseMag l = .ok n := by
        rw [Lib.parseMag_short l (by omega)]
        unfold Lib.decNat
        cases l with
        | nil => simp at h1
        | cons c r => simp [hd, Lib.NumEnd.ofOption]
      cases l with
      | nil => simp at h1
      | cons c r =>
        have hc : ∃ d, Lib.digitVal c = some d := Lib.digit_of_decFrom _ _ _ hd 0 c rfl
        obtain ⟨d, hc⟩ := hc
        obtain ⟨c1, c2, _⟩ := Lib.digitVal_eq hc
        rw [Lib.atoiAll_plain c r (by omega) (by omega), hm]
        simp only [Lib.signless]
        rw [if_neg (by omega)]
    | none =>
      right
      refine ⟨fun v hv => ?_, by rw [numD, if_neg hno, hd]⟩
      by_cases h0 : v < 0
      · exact .inl h0
      · right
        intro e
        rw [Lib.itoa, if_neg h0] at e
        rw [← e, decFrom_digits] at hd
        cases hd
end Go.Proofs.YtppnlijeonneeaaDoor
