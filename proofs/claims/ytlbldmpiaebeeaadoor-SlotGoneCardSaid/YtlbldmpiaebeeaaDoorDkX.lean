/- Arguments of the disk's laws: lists of acts, lists of yes and no: what a datum that is read says of memory. -/
import Derived.Test.YtlbldmpiaebeeaaDoorDkB
import Derived.Shelf.Vars
import Derived.WideShapes
import Derived.SizedLaws
import Derived.Deep.Slices
import Derived.ChangeSame
import Derived.DataShut
namespace Go.Proofs.YtlbldmpiaebeeaaDoor
open Go Go.RowKit Go.Deep Go.ChangeShapes Go.WideShapes

/-- An act, as far as it is looked at. -/
structure Ac where
  kind : Int
  at_ : Int
  c : UInt8
/-- Acts in memory. -/
def RdActs (w : World) (K : Nat → Prop) (v : Value) (l : List Ac) : Prop := ∃ A cap vs, v = .slice A l.length cap ∧ (l.length ≤ cap ∧ cap ≤ maxLen) ∧ Rk w K 5 A l.length vs ∧
  ∀ i a, l[i]? = some a → vs[i * 5]? = some (.int .i64 a.kind) ∧ vs[i * 5 + 1]? = some (.int .i64 a.at_) ∧ vs[i * 5 + 2]? = some (.int .u8 (a.c.toNat : Int)) ∧ ∃ (b : Bool) (A : Option Addr) (n c : Nat), vs[i * 5 + 3]? = some (.bool b) ∧ vs[i * 5 + 4]? = some (.slice A n c)
/-- Yes and no in memory. -/
def RdBools (w : World) (K : Nat → Prop) (v : Value) (l : List Bool) : Prop := ∃ A cap, v = .slice A l.length cap ∧ (l.length ≤ cap ∧ cap ≤ maxLen) ∧ Rk w K 1 A l.length (l.map Value.bool)
theorem RdActs.keep {w w' : World} {K : Nat → Prop} {v : Value} {l : List Ac} (h : RdActs w K v l) (hk : ∀ p : Addr, K p.block → w'.cell? p = w.cell? p) : RdActs w' K v l := by
  obtain ⟨A, cap, vs, e, hc, hr, ha⟩ := h
  exact ⟨A, cap, vs, e, hc, hr.keep hk, ha⟩
theorem RdBools.keep {w w' : World} {K : Nat → Prop} {v : Value} {l : List Bool} (h : RdBools w K v l) (hk : ∀ p : Addr, K p.block → w'.cell? p = w.cell? p) : RdBools w' K v l := by
  obtain ⟨A, cap, e, hc, hr⟩ := h
  exact ⟨A, cap, e, hc, hr.keep hk⟩
theorem pickD {α β : Type} : ∀ (xs : List β) (P : Nat → α → β → Prop), (∀ i y, xs[i]? = some y → ∃ x, P i x y) → ∃ l : List α, l.length = xs.length ∧ ∀ (i : Nat) x y, l[i]? = some x → xs[i]? = some y → P i x y
  | [], _, _ => ⟨[], rfl, fun i x y h => by simp at h⟩
  | y :: xs, P, h => by
    obtain ⟨x, hx⟩ := h 0 y rfl
    obtain ⟨l, hl, hp⟩ := pickD xs (fun i => P (i + 1)) (fun i z hz => h (i + 1) z (by simpa using hz))
    refine ⟨x :: l, by simp [hl], fun i x' y' h1 h2 => ?_⟩
    cases i with
    | zero =>
      simp only [List.getElem?_cons_zero, Option.some.injEq] at h1 h2
      subst h1 h2
      exact hx
    | succ i =>
      simp only [List.getElem?_cons_succ] at h1 h2
      exact hp i x' y' h1 h2
section
variable {H : Type} {enc : TypeId × Value → H} {w : World} {spare : Nat → Bool} {held : Bool} {fuel : Nat} {v : Value} {x : DataW H × List MemPlace}
theorem cellsDi : Tryd.prog.cellsOf 3 = 1 := by kernel_rfl
theorem cellsDu : Tryd.prog.cellsOf 5 = 1 := by kernel_rfl
theorem cellsDb : Tryd.prog.cellsOf 4 = 1 := by kernel_rfl
theorem cellsDl : Tryd.prog.cellsOf 28 = 1 := by kernel_rfl
theorem bools_of_trod (h : DataW.trod enc Tryd.prog w 0 spare held fuel 28 [v] = some x) : ∃ l : List Bool, RdBools w (· < w.heap.size) v l := by
  rcases DataW.trod_slice Tryd.underlying28 h with ⟨hcs, _⟩ | ⟨a, len, cap, elems, rest, n', hn', hcs, hx, _, hlc, hcm, hel, hall, _, _⟩
  · simp only [List.cons.injEq, and_true] at hcs
    subst hcs
    exact ⟨[], none, 0, rfl, ⟨Nat.le_refl _, Nat.zero_le _⟩, Rk.nil _ _ _ _⟩
  · simp only [List.cons.injEq, and_true] at hcs
    subst hcs
    obtain ⟨l, hl, hp⟩ := pickD (α := Bool) elems (fun i b _ => w.cell? (a.add i) = some (.bool b)) (fun i y hy => by
      have hi : i < len := by rw [← hel]; exact (List.getElem?_eq_some_iff.1 hy).1
      have h1 := hall i hi
      rw [hy, Option.bind_eq_some_iff, cellsDb] at h1
      obtain ⟨cs', hc', ht'⟩ := h1
      obtain ⟨_, hcl, hat⟩ := World.cells?_some hc'
      obtain ⟨s, e, _⟩ := DataW.trod_bool Tryd.underlying4 ht'
      subst e
      refine ⟨s, ?_⟩
      have := hat 0 (by omega)
      simpa [Addr.add] using this)
    have hll : l.length = len := by omega
    subst hll
    refine ⟨l, some a, cap, rfl, ⟨hlc, hcm⟩, by simp, fun h0 => ⟨a, rfl, ?_, fun j u hu => ?_⟩⟩
    · have := block_lt_of_cell (hp 0 l[0] elems[0] (List.getElem?_eq_getElem (by omega)) (List.getElem?_eq_getElem (by omega)))
      rwa [block_of_add] at this
    · rw [List.getElem?_map, Option.map_eq_some_iff] at hu
      obtain ⟨b, hb, rfl⟩ := hu
      have hj := (List.getElem?_eq_some_iff.1 hb).1
      exact hp j b _ hb (List.getElem?_eq_getElem (by omega))
/-- The cells of acts. -/
def cellsA (l : List (Ac × Bool × Option Addr × Nat × Nat)) : List Value := l.flatMap fun p => [.int .i64 p.1.kind, .int .i64 p.1.at_, .int .u8 (p.1.c.toNat : Int), .bool p.2.1, .slice p.2.2.1 p.2.2.2.1 p.2.2.2.2]
theorem cellsA_len (l : List (Ac × Bool × Option Addr × Nat × Nat)) : (cellsA l).length = l.length * 5 := by
  unfold cellsA
  induction l with
  | nil => rfl
  | cons p l ih => rw [List.flatMap_cons, List.length_append, ih, List.length_cons]; simp only [List.length_cons, List.length_nil]; omega
theorem cellsA_at : ∀ (l : List (Ac × Bool × Option Addr × Nat × Nat)) (i j : Nat) (p : Ac × Bool × Option Addr × Nat × Nat), l[i]? = some p → j < 5 → (cellsA l)[i * 5 + j]? = ([.int .i64 p.1.kind, .int .i64 p.1.at_, .int .u8 (p.1.c.toNat : Int), .bool p.2.1, .slice p.2.2.1 p.2.2.2.1 p.2.2.2.2] : List Value)[j]?
  | [], _, _, _, h, _ => by simp at h
  | q :: l, 0, j, p, h, hj => by
    simp only [List.getElem?_cons_zero, Option.some.injEq] at h
    subst h
    unfold cellsA
    rw [List.flatMap_cons, List.getElem?_append_left (by simp only [List.length_cons, List.length_nil]; omega), Nat.zero_mul, Nat.zero_add]
  | q :: l, i + 1, j, p, h, hj => by
    simp only [List.getElem?_cons_succ] at h
    have ih := cellsA_at l i j p h hj
    unfold cellsA at ih ⊢
    rw [List.flatMap_cons, List.getElem?_append_right (by simp only [List.length_cons, List.length_nil]; omega)]
    rw [← ih]
    congr 1
    simp only [List.length_cons, List.length_nil]
    omega
end
end Go.Proofs.YtlbldmpiaebeeaaDoor
