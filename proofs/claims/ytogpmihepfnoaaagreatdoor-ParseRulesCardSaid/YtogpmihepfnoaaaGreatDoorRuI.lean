/- Are conditions, and rules, the same? -/
import Derived.Test.YtogpmihepfnoaaaGreatDoorRuC
import Derived.Test.YtogpmihepfnoaaaGreatDoorRuT
namespace Go.Proofs.YtogpmihepfnoaaaGreatDoor
open Go Go.RowKit Go.Sort

theorem exEq_no {x y : Ex} (h : x ≠ y) : exEq x y = false := by
  rw [Bool.eq_false_iff]
  exact fun e => h (exEq_eq x y e)
theorem exEqL_no {x y : List Ex} (h : x ≠ y) : exEqL x y = false := by
  rw [Bool.eq_false_iff]
  exact fun e => h (exEqL_eq x y e)
theorem ruEq_no {x y : List Ru} (h : x ≠ y) : ruEq x y = false := by
  rw [Bool.eq_false_iff]
  exact fun e => h (ruEq_eq x y e)
theorem take_eq {α : Type} {xs ys : List α} {k : Nat} {x y : α} (h : xs.take k = ys.take k) (hx : xs[k]? = some x) (hy : ys[k]? = some y) (he : x = y) : xs.take (k + 1) = ys.take (k + 1) := by
  obtain ⟨h1, e1⟩ := List.getElem?_eq_some_iff.1 hx
  obtain ⟨h2, e2⟩ := List.getElem?_eq_some_iff.1 hy
  rw [List.take_succ_eq_append_getElem h1, List.take_succ_eq_append_getElem h2, h, e1, e2, he]
theorem take_all {α : Type} {xs ys : List α} (h : xs.take xs.length = ys.take xs.length) (hl : xs.length = ys.length) : xs = ys := by
  rwa [List.take_length, hl, List.take_length] at h
theorem at_ne {α : Type} {xs ys : List α} {k : Nat} {x y : α} (hx : xs[k]? = some x) (hy : ys[k]? = some y) (h : x ≠ y) : xs ≠ ys := by
  rintro rfl
  exact h (Option.some.inj (hx.symm.trans hy))
theorem RdEx.four3 {w : World} {K : Nat → Prop} {x : Ex} {v0 v1 v2 v3 : Value} (h : RdEx w K x (.agg #[v0, v1, v2, v3])) : ∃ (op days : Int) (mile : ByteArray) (A : Option Addr) (n c : Nat), v0 = .int .i64 op ∧ v1 = .int .i64 days ∧ v2 = .string mile ∧ v3 = .slice A n c := by
  obtain ⟨op, days, mile, ks⟩ := x
  obtain ⟨A, c, vs, e, -⟩ := h.form
  injection e with e
  injection e with e
  simp only [List.cons.injEq, and_true] at e
  exact ⟨op, days, mile, A, ks.length, c, e⟩
theorem exEq_mk {o d o' d' : Int} {m m' : ByteArray} {ks ls : List Ex} (ho : o = o') (hd : d = d') (hm : m = m') : exEq (.mk o d m ks) (.mk o' d' m' ls) = exEqL ks ls := by
  subst ho hd hm
  rw [exEq]; simp
/-- Are two rules the same? -/
def ru1 (r s : Ru) : Bool := decide (r.cls = s.cls) && decide (r.act = s.act) && exEq r.wh s.wh
theorem ru1_refl (r : Ru) : ru1 r r = true := by unfold ru1; rw [exEq_refl]; simp
theorem ru1_eq {r s : Ru} (h : ru1 r s = true) : r = s := by
  obtain ⟨c, w, a⟩ := r
  obtain ⟨c', w', a'⟩ := s
  unfold ru1 at h
  simp only [Bool.and_eq_true, decide_eq_true_eq] at h
  obtain ⟨⟨h1, h2⟩, h3⟩ := h
  rw [h1, h2, exEq_eq _ _ h3]
end Go.Proofs.YtogpmihepfnoaaaGreatDoor
