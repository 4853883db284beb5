/- Disks: plain laws: which sectors stay behind a crash, by their place among those that are pending. -/
import Derived.Test.YtlbldmpiaebeeaaDoorDkA
namespace Go.Proofs.YtlbldmpiaebeeaaDoor
open Go Go.RowKit

/-- How many are pending ahead of a sector. -/
def rankS : List (Option (List UInt8)) → Nat → Nat
  | _, 0 => 0
  | [], _ + 1 => 0
  | x :: ws, j + 1 => (if x.isSome then 1 else 0) + rankS ws j
theorem keepS_rank (keep : List Bool) : ∀ (ss : List (List UInt8)) (ws : List (Option (List UInt8))) (k j : Nat), ss.length = ws.length →
    (keepS keep k ss ws)[j]? = match ws[j]? with
      | some (some x) => if keep.getD (k + rankS ws j) false then some x else ss[j]?
      | _ => ss[j]?
  | [], [], _, _, _ => rfl
  | [], _ :: _, _, _, h => by simp at h
  | _ :: _, [], _, _, h => by simp at h
  | s :: ss, some x :: ws, k, 0, _ => by
    show some (if keep.getD k false = true then x else s) = if keep.getD (k + 0) false = true then some x else some s
    rw [Nat.add_zero]
    split <;> rfl
  | s :: ss, none :: ws, k, 0, _ => rfl
  | s :: ss, some x :: ws, k, j + 1, h => by
    have ih := keepS_rank keep ss ws (k + 1) j (by simpa using h)
    show (keepS keep (k + 1) ss ws)[j]? = _
    rw [ih]
    have e : k + rankS (some x :: ws) (j + 1) = k + 1 + rankS ws j := by
      show k + (1 + rankS ws j) = _
      omega
    rw [e]
    rfl
  | s :: ss, none :: ws, k, j + 1, h => by
    have ih := keepS_rank keep ss ws k j (by simpa using h)
    show (keepS keep k ss ws)[j]? = _
    rw [ih]
    have e : k + rankS (none :: ws) (j + 1) = k + rankS ws j := by
      show k + (0 + rankS ws j) = _
      omega
    rw [e]
    rfl
theorem pendS_rank : ∀ (ws : List (Option (List UInt8))) (j q i : Nat), (pendS j ws)[q]? = some i → ∃ k l, i = j + k ∧ ws[k]? = some (some l) ∧ rankS ws k = q
  | [], _, _, _, h => by simp [pendS] at h
  | none :: ws, j, q, i, h => by
    rw [pendS_z] at h
    obtain ⟨k, l, rfl, h1, h2⟩ := pendS_rank ws (j + 1) q i h
    exact ⟨k + 1, l, by omega, h1, by show 0 + rankS ws k = q; omega⟩
  | some x :: ws, j, 0, i, h => by
    rw [pendS_s] at h
    simp only [List.getElem?_cons_zero, Option.some.injEq] at h
    exact ⟨0, x, by omega, rfl, rfl⟩
  | some x :: ws, j, q + 1, i, h => by
    rw [pendS_s] at h
    simp only [List.getElem?_cons_succ] at h
    obtain ⟨k, l, rfl, h1, h2⟩ := pendS_rank ws (j + 1) q i h
    exact ⟨k + 1, l, by omega, h1, by show 1 + rankS ws k = q + 1; omega⟩
theorem rank_lt : ∀ (ws : List (Option (List UInt8))) (j k : Nat) (l : List UInt8), ws[k]? = some (some l) → rankS ws k < (pendS j ws).length
  | [], _, _, _, h => by simp at h
  | none :: ws, j, 0, l, h => by simp at h
  | some x :: ws, j, 0, l, h => by rw [pendS_s]; exact Nat.succ_pos _
  | none :: ws, j, k + 1, l, h => by
    have := rank_lt ws (j + 1) k l (by simpa using h)
    rw [pendS_z]
    show 0 + rankS ws k < _
    omega
  | some x :: ws, j, k + 1, l, h => by
    have := rank_lt ws (j + 1) k l (by simpa using h)
    rw [pendS_s, List.length_cons]
    show 1 + rankS ws k < _
    omega
theorem rank_inj : ∀ (ws : List (Option (List UInt8))) (a b : Nat) (x y : List UInt8), ws[a]? = some (some x) → ws[b]? = some (some y) → rankS ws a = rankS ws b → a = b
  | [], _, _, _, _, h, _, _ => by simp at h
  | z :: ws, 0, 0, _, _, _, _, _ => rfl
  | z :: ws, 0, b + 1, x, y, h1, _, h => by
    simp only [List.getElem?_cons_zero, Option.some.injEq] at h1
    subst h1
    have : (0 : Nat) = 1 + rankS ws b := h
    omega
  | z :: ws, a + 1, 0, x, y, _, h2, h => by
    simp only [List.getElem?_cons_zero, Option.some.injEq] at h2
    subst h2
    have : 1 + rankS ws a = 0 := h
    omega
  | z :: ws, a + 1, b + 1, x, y, h1, h2, h => by
    have e : (if z.isSome then 1 else 0) + rankS ws a = (if z.isSome then 1 else 0) + rankS ws b := h
    rw [rank_inj ws a b x y (by simpa using h1) (by simpa using h2) (by omega)]
end Go.Proofs.YtlbldmpiaebeeaaDoor
