/- Which rule is found: the program's Find, the reference's. -/
import Derived.Test.YtogpmihepfnoaaaGreatDoorRuQ
namespace Go.Proofs.YtogpmihepfnoaaaGreatDoor
open Go Go.RowKit Go.Sort

/-- The first rule of a class. -/
def fnd (rs : List Ru) (c : ByteArray) : Option Ru := rs.find? fun r => decide (r.cls = c)
def NoTo (rs : List Ru) (c : ByteArray) (k : Nat) : Prop := ∀ (j : Nat) (x : Ru), j < k → rs[j]? = some x → x.cls ≠ c
theorem NoTo.succ {rs : List Ru} {c : ByteArray} {k : Nat} {x : Ru} (h : NoTo rs c k) (hk : rs[k]? = some x) (hx : x.cls ≠ c) : NoTo rs c (k + 1) := by
  intro j y hj hy
  rcases Nat.lt_or_ge j k with hlt | hge
  · exact h j y hlt hy
  · obtain rfl : j = k := by omega
    obtain rfl := Option.some.inj (hk.symm.trans hy)
    exact hx
theorem NoTo.none {rs : List Ru} {c : ByteArray} (h : NoTo rs c rs.length) : fnd rs c = none := by
  unfold fnd
  rw [List.find?_eq_none]
  intro x hx
  obtain ⟨j, hj, rfl⟩ := List.getElem_of_mem hx
  simp only [decide_eq_true_eq]
  exact h j _ hj (List.getElem?_eq_getElem hj)
theorem NoTo.some {rs : List Ru} {c : ByteArray} {k : Nat} {x : Ru} (h : NoTo rs c k) (hk : rs[k]? = some x) (hx : x.cls = c) : fnd rs c = some x := by
  obtain ⟨hl, e⟩ := List.getElem?_eq_some_iff.1 hk
  unfold fnd
  rw [List.find?_eq_some_iff_getElem]
  refine ⟨by simp [hx], k, hl, e, fun j hj => ?_⟩
  have := h j _ hj (List.getElem?_eq_getElem (by omega))
  simp [this]
/-- Where the first rule of a class is. -/
def FI (rs : List Ru) (c : ByteArray) (e : Ending) : Prop := (∃ (i : Nat) (x : Ru), e = .returned (.int .i64 (i : Int)) ∧ rs[i]? = some x ∧ fnd rs c = some x) ∨ (e = .returned (.int .i64 (-1)) ∧ fnd rs c = none)
/-- The rule that is found. -/
def findD (rs : List Ru) (c : ByteArray) : Ru × Bool := match fnd rs c with
  | some r => (r, true)
  | none => match fnd rs ⟨#[]⟩ with
    | some r => (r, true)
    | none => (⟨⟨#[]⟩, Ex.none_, 0⟩, false)
theorem findD_1 {rs : List Ru} {c : ByteArray} {r : Ru} (h : fnd rs c = some r) : findD rs c = (r, true) := by unfold findD; rw [h]
theorem findD_2 {rs : List Ru} {c : ByteArray} {r : Ru} (h : fnd rs c = none) (h2 : fnd rs ⟨#[]⟩ = some r) : findD rs c = (r, true) := by unfold findD; rw [h, h2]
theorem findD_3 {rs : List Ru} {c : ByteArray} (h : fnd rs c = none) (h2 : fnd rs ⟨#[]⟩ = none) : findD rs c = (⟨⟨#[]⟩, Ex.none_, 0⟩, false) := by unfold findD; rw [h, h2]
/-- What a finding hands back. -/
def FindP (d : Ru × Bool) (w : World) (e : Ending) (w' : World) : Prop := ∃ (o y : Int) (m : ByteArray) (A : Option Addr) (n a : Nat), e = .returned (.tuple #[.agg #[.string d.1.cls, .int .i64 o, .int .i64 y, .string m, .slice A n a, .int .i64 d.1.act], .bool d.2]) ∧ d.1.cls.size ≤ 140737488351232 ∧ RdEx w' (· < w'.heap.size) d.1.wh (.agg #[.int .i64 o, .int .i64 y, .string m, .slice A n a]) ∧ Gr w w'
theorem none_rd (w : World) : RdEx w (· < w.heap.size) Ex.none_ (.agg #[.int .i64 0, .int .i64 0, .string ⟨#[]⟩, .slice none 0 0]) := by
  unfold Ex.none_
  rw [RdEx]
  exact ⟨none, 0, [], rfl, ⟨Nat.le_refl _, Nat.zero_le _, by decide⟩, Rk.nil _ _ _ _, by rw [RdExL]⟩
abbrev set6w (w : World) (g : Nat) (y0 y1 y2 y3 y4 y5 : Value) : World := (((((w.setCell ⟨g, 0, none⟩ y0).setCell ⟨g, 1, none⟩ y1).setCell ⟨g, 2, none⟩ y2).setCell ⟨g, 3, none⟩ y3).setCell ⟨g, 4, none⟩ y4).setCell ⟨g, 5, none⟩ y5
theorem Blk.put6 {w : World} {g : Nat} {T : TypeId} {x0 x1 x2 x3 x4 x5 y0 y1 y2 y3 y4 y5 : Value} (h : Blk w g T #[x0, x1, x2, x3, x4, x5]) : Blk (set6w w g y0 y1 y2 y3 y4 y5) g T #[y0, y1, y2, y3, y4, y5] := by
  simpa using (((((h.set_ 0 y0).set_ 1 y1).set_ 2 y2).set_ 3 y3).set_ 4 y4).set_ 5 y5
theorem gr_put6 {a w : World} {g : Nat} {y0 y1 y2 y3 y4 y5 : Value} (h : Gr a w) (hg : a.heap.size ≤ g) : Gr a (set6w w g y0 y1 y2 y3 y4 y5) :=
  Below.setCell (Below.setCell (Below.setCell (Below.setCell (Below.setCell (Below.setCell h hg _) hg _) hg _) hg _) hg _) hg _
theorem six_all {W : World} {g : Nat} {T : TypeId} {x0 x1 x2 x3 x4 x5 : Value} (h : Blk W g T #[x0, x1, x2, x3, x4, x5]) : W.cell? ⟨g, 0, none⟩ = some x0 ∧ W.cell? ⟨g, 1, none⟩ = some x1 ∧ W.cell? ⟨g, 2, none⟩ = some x2 ∧ W.cell? ⟨g, 3, none⟩ = some x3 ∧ W.cell? ⟨g, 4, none⟩ = some x4 ∧ W.cell? ⟨g, 5, none⟩ = some x5 ∧
    W.frozen? ⟨g, 0, none⟩ = false ∧ W.frozen? ⟨g, 1, none⟩ = false ∧ W.frozen? ⟨g, 2, none⟩ = false ∧ W.frozen? ⟨g, 3, none⟩ = false ∧ W.frozen? ⟨g, 4, none⟩ = false ∧ W.frozen? ⟨g, 5, none⟩ = false :=
  ⟨h.cell 0, h.cell 1, h.cell 2, h.cell 3, h.cell 4, h.cell 5, h.frozen 0, h.frozen 1, h.frozen 2, h.frozen 3, h.frozen 4, h.frozen 5⟩
theorem fidx_some {rs : List Ru} {c : ByteArray} {x : Ru} (h : fnd rs c = some x) {e : Ending} (hF : FI rs c e) : ∃ i : Nat, e = .returned (.int .i64 (i : Int)) ∧ rs[i]? = some x := by
  rcases hF with ⟨i, y, e1, e2, e3⟩ | ⟨_, e3⟩
  · rw [h] at e3
    obtain rfl := Option.some.inj e3
    exact ⟨i, e1, e2⟩
  · rw [h] at e3; cases e3
theorem fidx_none {rs : List Ru} {c : ByteArray} (h : fnd rs c = none) {e : Ending} (hF : FI rs c e) : e = .returned (.int .i64 (-1)) := by
  rcases hF with ⟨i, y, e1, e2, e3⟩ | ⟨e1, _⟩
  · rw [h] at e3; cases e3
  · exact e1
end Go.Proofs.YtogpmihepfnoaaaGreatDoor
