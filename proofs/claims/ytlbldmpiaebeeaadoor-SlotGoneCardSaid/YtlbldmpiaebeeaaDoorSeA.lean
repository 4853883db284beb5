/- Sealed sectors: plain laws: what is put, what is got; marks as bytes. -/
import Derived.Test.YtlbldmpiaebeeaaDoorGsB
namespace Go.Proofs.YtlbldmpiaebeeaaDoor
open Go Go.RowKit

def zerosS (n : Nat) : List UInt8 := List.replicate n 0
theorem zerosS_len (n : Nat) : (zerosS n).length = n := List.length_replicate
/-- A mark as bytes. -/
def bytesZ (z : Int × Int) : List UInt8 := [UInt8.ofNat (z.1.toNat / 256), UInt8.ofNat z.1.toNat, UInt8.ofNat (z.2.toNat / 256), UInt8.ofNat z.2.toNat]
def markB (l : List UInt8) : List UInt8 := bytesZ (markZ (0, 0) l)
theorem markB_len (l : List UInt8) : (markB l).length = 4 := rfl
/-- What is marked of a sealed sector. -/
def hdS (k : UInt8) (b : List UInt8) : List UInt8 := [k, UInt8.ofNat (b.length / 256), UInt8.ofNat b.length] ++ (b ++ zerosS (249 - b.length))
theorem hdS_len (k : UInt8) (b : List UInt8) (h : b.length ≤ 249) : (hdS k b).length = 252 := by
  unfold hdS
  simp only [List.length_append, zerosS_len, List.length_cons, List.length_nil]
  omega
/-- A sealed sector. -/
def secS (k : UInt8) (b : List UInt8) : List UInt8 := hdS k b ++ markB (hdS k b)
theorem secS_len (k : UInt8) (b : List UInt8) (h : b.length ≤ 249) : (secS k b).length = 256 := by
  unfold secS
  rw [List.length_append, hdS_len k b h, markB_len]
/-- The length that a sector tells. -/
def lenS (s : List UInt8) : Nat := (s.getD 1 0).toNat * 256 + (s.getD 2 0).toNat
/-- Is it one that was put? -/
def soundS (s : List UInt8) : Prop := lenS s ≤ 249 ∧ s.getD 0 0 ≠ 0 ∧ markB (s.take 252) = s.drop 252 ∧ ∀ c ∈ (s.take 252).drop (3 + lenS s), c = 0
instance (s : List UInt8) : Decidable (soundS s) := by unfold soundS; infer_instance
/-- The error of what is got. -/
def getE (s : List UInt8) : Int := if s.length ≠ 256 then 1 else if s = zerosS 256 then 5 else if soundS s then 0 else 17
def bodyS (s : List UInt8) : List UInt8 := (s.drop 3).take (lenS s)
theorem len2 (n : Nat) (h : n ≤ 249) : (UInt8.ofNat (n / 256)).toNat * 256 + (UInt8.ofNat n).toNat = n := by
  rw [UInt8.toNat_ofNat', UInt8.toNat_ofNat']
  omega
theorem lenS_secS (k : UInt8) (b : List UInt8) (h : b.length ≤ 249) : lenS (secS k b) = b.length := by
  unfold lenS secS hdS
  simp only [List.cons_append, List.getD_cons_succ, List.getD_cons_zero]
  exact len2 _ h
theorem getE_secS (k : UInt8) (b : List UInt8) (hk : k ≠ 0) (h : b.length ≤ 249) : getE (secS k b) = 0 := by
  unfold getE
  rw [if_neg (by rw [secS_len k b h]; simp), if_neg, if_pos]
  · refine ⟨by rw [lenS_secS k b h]; exact h, hk, ?_, ?_⟩
    · unfold secS
      rw [List.take_left' (hdS_len k b h), List.drop_left' (hdS_len k b h)]
    · rw [lenS_secS k b h]
      unfold secS
      rw [List.take_left' (hdS_len k b h)]
      unfold hdS
      intro c hc
      rw [show 3 + b.length = b.length + 1 + 1 + 1 by omega] at hc
      simp only [List.cons_append, List.nil_append, List.drop_succ_cons] at hc
      rw [List.drop_left' rfl] at hc
      exact (List.mem_replicate.1 hc).2
  · intro e
    have : (secS k b).getD 0 0 = (zerosS 256).getD 0 0 := by rw [e]
    exact hk this
theorem bodyS_secS (k : UInt8) (b : List UInt8) (h : b.length ≤ 249) : bodyS (secS k b) = b := by
  unfold bodyS
  rw [lenS_secS k b h]
  unfold secS hdS
  simp only [List.cons_append, List.drop_succ_cons, List.drop_zero, List.nil_append, List.append_assoc]
  exact List.take_left' rfl
end Go.Proofs.YtlbldmpiaebeeaaDoor
