/- Rules as a text: plain laws, the program's Print. -/
import Derived.Test.YtogpmihepfnoaaaGreatDoorRuV
import Derived.Test.YtogpmihepfnoaaaGreatDoorRuB
import Derived.Test.YtogpmihepfnoaaaGreatDoorFacts
namespace Go.Proofs.YtogpmihepfnoaaaGreatDoor
open Go Go.RowKit Go.Sort

def clsL (c : ByteArray) : List UInt8 := if c.size = 0 then [100, 101, 102, 97, 117, 108, 116] else [99, 108, 97, 115, 115, 32, 34] ++ c.data.toList ++ [34]
/-- A rule as a text. -/
def ruleL (r : Ru) : List UInt8 := clsL r.cls ++ ([32, 107, 101, 101, 112, 32] ++ exprL r.wh ++ [32, 116, 104, 101, 110, 32] ++ actL r.act ++ [59, 10])
def printL (rs : List Ru) : List UInt8 := (rs.map ruleL).flatten
/-- Rules as a text, or the error. -/
def printD (rs : List Ru) : List UInt8 × Int := if checkD rs ≠ 0 then ([], checkD rs) else if 600 < (printL rs).length then ([], 3) else (printL rs, 0)
theorem printL_take {rs : List Ru} {k : Nat} {x : Ru} (h : rs[k]? = some x) : printL (rs.take (k + 1)) = printL (rs.take k) ++ ruleL x := by
  obtain ⟨hl, e⟩ := List.getElem?_eq_some_iff.1 h
  unfold printL
  rw [List.take_succ_eq_append_getElem hl, e, List.map_append, List.flatten_append]
  simp
theorem actL_len (n : Int) : (actL n).length ≤ 7 := by unfold actL; split <;> (try split) <;> decide
theorem okR_parts {r : Ru} (h : okR r = true) : r.cls.size ≤ 16 ∧ ∃ m, mayX r.wh 24 8 = some m := by
  unfold okR at h
  simp only [Bool.and_eq_true, Bool.or_eq_true, decide_eq_true_eq] at h
  obtain ⟨⟨_, hc⟩, hm⟩ := h
  refine ⟨?_, Option.isSome_iff_exists.1 hm⟩
  rcases hc with hc | hc
  · omega
  · unfold nameD at hc
    simp only [Bool.and_eq_true, decide_eq_true_eq] at hc
    omega
theorem ruleL_len {r : Ru} (h : okR r = true) : (ruleL r).length ≤ 61000 := by
  obtain ⟨hc, m, hm⟩ := okR_parts h
  have h1 := ex_bound hm (by omega)
  have h2 := actL_len r.act
  have h3 : (clsL r.cls).length ≤ 24 := by
    unfold clsL
    split
    · decide
    · simp only [List.length_append, List.length_cons, List.length_nil, Array.length_toList]
      have : r.cls.data.size = r.cls.size := rfl
      omega
  unfold ruleL
  simp only [List.length_append, List.length_cons, List.length_nil]
  omega
theorem printL_len {rs : List Ru} (h : ∀ r ∈ rs, okR r = true) : (printL rs).length ≤ 61000 * rs.length := by
  induction rs with
  | nil => exact Nat.le_refl _
  | cons a r ih =>
    have h1 := ruleL_len (h a (by simp))
    have h2 := ih (fun r hr => h r (by simp [hr]))
    have e : printL (a :: r) = ruleL a ++ printL r := rfl
    rw [e, List.length_append, List.length_cons]
    omega
theorem checkD_ok {rs : List Ru} (h : checkD rs = 0) : rs.length ≤ 12 ∧ ∀ r ∈ rs, okR r = true := by
  unfold checkD at h
  split at h
  · cases h
  · rename_i h12
    split at h
    · rename_i ha
      exact ⟨by omega, List.all_eq_true.1 ha⟩
    · cases h
theorem strCells_ba (l : List UInt8) : Lib.strCells (ba l) = Lib.byteCells l := rfl
theorem byteCells_app (a b : List UInt8) : Lib.byteCells a ++ Lib.byteCells b = Lib.byteCells (a ++ b) := by
  unfold Lib.byteCells
  rw [List.map_append]
theorem byteCells_len (l : List UInt8) : (Lib.byteCells l).length = l.length := by
  unfold Lib.byteCells
  rw [List.length_map]
/-- What stands behind a rule's class. -/
def tailL (r : Ru) : List UInt8 := [32, 107, 101, 101, 112, 32] ++ exprL r.wh ++ [32, 116, 104, 101, 110, 32] ++ actL r.act ++ [59, 10]
theorem tail_ba {E T : ByteArray} {r : Ru} (hE : ba (exprL r.wh) = E) (hT : ba (actL r.act) = T) : (⟨#[32, 107, 101, 101, 112, 32]⟩ : ByteArray) ++ E ++ ⟨#[32, 116, 104, 101, 110, 32]⟩ ++ T ++ ⟨#[59, 10]⟩ = ba (tailL r) := by
  rw [← hE, ← hT]
  show ba [32, 107, 101, 101, 112, 32] ++ _ ++ ba [32, 116, 104, 101, 110, 32] ++ _ ++ ba [59, 10] = _
  rw [ba_app, ba_app, ba_app, ba_app]
  rfl
theorem cls_ba {c : ByteArray} (h : c.size ≠ 0) : (⟨#[99, 108, 97, 115, 115, 32, 34]⟩ : ByteArray) ++ c ++ ⟨#[34]⟩ = ba (clsL c) := by
  unfold clsL
  rw [if_neg h]
  show ba [99, 108, 97, 115, 115, 32, 34] ++ ba c.data.toList ++ ba [34] = _
  rw [ba_app, ba_app]
theorem cls_ba0 : (⟨#[100, 101, 102, 97, 117, 108, 116]⟩ : ByteArray) = ba (clsL ⟨#[]⟩) := rfl
end Go.Proofs.YtogpmihepfnoaaaGreatDoor
