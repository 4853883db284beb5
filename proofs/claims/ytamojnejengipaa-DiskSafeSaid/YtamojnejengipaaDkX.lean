/- Arguments of the disk's laws: lists of acts, lists of yes and no: what a datum that is read says of memory. -/
import Derived.Test.YtamojnejengipaaDkB
import Derived.Shelf.Vars
import Derived.WideShapes
import Derived.SizedLaws
import Derived.Deep.Slices
import Derived.ChangeSame
import Derived.DataShut
namespace Go.Proofs.Ytamojnejengipaa
open Go Go.RowKit Go.Deep Go.ChangeShapes Go.WideShapes

/-- An act, as far as it is looked at. -/
structure Ac where
  kind : Int
  at_ : Int
  c : UInt8
/-- Acts in memory. -/
def RdActs (w : World) (K : Nat → Prop) (v : Value) (l : List Ac) : Prop := ∃ A cap vs, v = .slice A l.length cap ∧ (l.length ≤ cap ∧ cap ≤ maxLen) ∧ Rk w K 5 A l.length vs ∧
  ∀ i a, l[i]? = some a → vs[i * 5]? = some (.int .i64 a.kind) ∧ vs[i * 5 + 1]? = some (.int .i64 a.at_) ∧ vs[i * 5 + 2]? = some (.int .u8 (a.c.toNat : Int)) ∧ ∃ (b : Bool) (A : Option Addr) (n c : Nat), vs[i * 5 + 3]? = some (.bool b) ∧ vs[i * 5 + 4]? = some (.slice A n c)
/-- Yes and no in memory. -/
def RdBools (w : World) (K : Nat → Prop) (v : Value) (l : List Bool) : Prop := ∃ A cap, v = .slice A l.length cap ∧ (l.length ≤ cap ∧ cap ≤ maxLen) ∧ Rk w K 1 A l.length (l.map Value.bool)
theorem RdActs.keep {w w' : World} {K : Nat → Prop} {v : Value} {l : List Ac} (h : RdActs w K v l) (hk : ∀ p : Addr, K p.block → w'.cell? p = w.cell? p) : RdActs w' K v l := by
  obtain ⟨A, cap, vs, e, hc, hr, ha⟩ := h
  exact ⟨A, cap, vs, e, hc, hr.keep hk, ha⟩
theorem RdBools.keep {w w' : World} {K : Nat → Prop} {v : Value} {l : List Bool} (h : RdBools w K v l) (hk : ∀ p : Addr, K p.block → w'.cell? p = w.cell? p) : RdBools w' K v l := by
  obtain ⟨A, cap, e, hc, hr⟩ := h
  exact ⟨A, cap, e, hc, hr.keep hk⟩
theorem pickD {α β : Type} : ∀ (xs : List β) (P : Nat → α → β → Prop), (∀ i y, xs[i]? = some y → ∃ x, P i x y) → ∃ l : List α, l.length = xs.length ∧ ∀ (i : Nat) x y, l[i]? = some x → xs[i]? = some y → P i x y
  | [], _, _ => ⟨[], rfl, fun i x y h => by simp at h⟩
  | y :: xs, P, h => by
    obtain ⟨x, hx⟩ := h 0 y rfl
    obtain ⟨l, hl, hp⟩ := pickD xs (fun i => P (i + 1)) (fun i z hz => h (i + 1) z (by simpa using hz))
    refine ⟨x :: l, by simp [hl], fun i x' y' h1 h2 => ?_⟩
    cases i with
    | zero =>
      simp only [List.getElem?_cons_zero, Option.some.injEq] at h1 h2
      subst h1 h2
      exact hx
    | succ i =>
      simp only [List.getElem?_cons_succ] at h1 h2
      exact hp i x' y' h1 h2
section
variable {H : Type} {enc : TypeId × Value → H} {w : World} {spare : Nat → Bool} {held : Bool} {fuel : Nat} {v : Value} {x : DataW H × List MemPlace}
theorem cellsDi : Try.prog.cellsOf 3 = 1 := by kernel_rfl
theorem cellsDu : Try.prog.cellsOf 5 = 1 := by kernel_rfl
theorem cellsDb : Try.prog.cellsOf 4 = 1 := by kernel_rfl
theorem cellsDl : Try.prog.cellsOf 23 = 1 := by kernel_rfl
theorem cellsDa : Try.prog.cellsOf 32 = 5 := by kernel_rfl
theorem bools_of_trod (h : DataW.trod enc Try.prog w 0 spare held fuel 23 [v] = some x) : ∃ l : List Bool, RdBools w (· < w.heap.size) v l := by
  rcases DataW.trod_slice Try.underlying23 h with ⟨hcs, _⟩ | ⟨a, len, cap, elems, rest, n', hn', hcs, hx, _, hlc, hcm, hel, hall, _, _⟩
  · simp only [List.cons.injEq, and_true] at hcs
    subst hcs
    exact ⟨[], none, 0, rfl, ⟨Nat.le_refl _, Nat.zero_le _⟩, Rk.nil _ _ _ _⟩
  · simp only [List.cons.injEq, and_true] at hcs
    subst hcs
    obtain ⟨l, hl, hp⟩ := pickD (α := Bool) elems (fun i b _ => w.cell? (a.add i) = some (.bool b)) (fun i y hy => by
      have hi : i < len := by rw [← hel]; exact (List.getElem?_eq_some_iff.1 hy).1
      have h1 := hall i hi
      rw [hy, Option.bind_eq_some_iff, cellsDb] at h1
      obtain ⟨cs', hc', ht'⟩ := h1
      obtain ⟨_, hcl, hat⟩ := World.cells?_some hc'
      obtain ⟨s, e, _⟩ := DataW.trod_bool Try.underlying4 ht'
      subst e
      refine ⟨s, ?_⟩
      have := hat 0 (by omega)
      simpa [Addr.add] using this)
    have hll : l.length = len := by omega
    subst hll
    refine ⟨l, some a, cap, rfl, ⟨hlc, hcm⟩, by simp, fun h0 => ⟨a, rfl, ?_, fun j u hu => ?_⟩⟩
    · have := block_lt_of_cell (hp 0 l[0] elems[0] (List.getElem?_eq_getElem (by omega)) (List.getElem?_eq_getElem (by omega)))
      rwa [block_of_add] at this
    · rw [List.getElem?_map, Option.map_eq_some_iff] at hu
      obtain ⟨b, hb, rfl⟩ := hu
      have hj := (List.getElem?_eq_some_iff.1 hb).1
      exact hp j b _ hb (List.getElem?_eq_getElem (by omega))
/-- The cells of acts. -/
def cellsA (l : List (Ac × Bool × Option Addr × Nat × Nat)) : List Value := l.flatMap fun p => [.int .i64 p.1.kind, .int .i64 p.1.at_, .int .u8 (p.1.c.toNat : Int), .bool p.2.1, .slice p.2.2.1 p.2.2.2.1 p.2.2.2.2]
theorem cellsA_len (l : List (Ac × Bool × Option Addr × Nat × Nat)) : (cellsA l).length = l.length * 5 := by
  unfold cellsA
  induction l with
  | nil => rfl
  | cons p l ih => rw [List.flatMap_cons, List.length_append, ih, List.length_cons]; simp only [List.length_cons, List.length_nil]; omega
theorem cellsA_at : ∀ (l : List (Ac × Bool × Option Addr × Nat × Nat)) (i j : Nat) (p : Ac × Bool × Option Addr × Nat × Nat), l[i]? = some p → j < 5 → (cellsA l)[i * 5 + j]? = ([.int .i64 p.1.kind, .int .i64 p.1.at_, .int .u8 (p.1.c.toNat : Int), .bool p.2.1, .slice p.2.2.1 p.2.2.2.1 p.2.2.2.2] : List Value)[j]?
  | [], _, _, _, h, _ => by simp at h
  | q :: l, 0, j, p, h, hj => by
    simp only [List.getElem?_cons_zero, Option.some.injEq] at h
    subst h
    unfold cellsA
    rw [List.flatMap_cons, List.getElem?_append_left (by simp only [List.length_cons, List.length_nil]; omega), Nat.zero_mul, Nat.zero_add]
  | q :: l, i + 1, j, p, h, hj => by
    simp only [List.getElem?_cons_succ] at h
    have ih := cellsA_at l i j p h hj
    unfold cellsA at ih ⊢
    rw [List.flatMap_cons, List.getElem?_append_right (by simp only [List.length_cons, List.length_nil]; omega)]
    rw [← ih]
    congr 1
    simp only [List.length_cons, List.length_nil]
    omega
set_option maxRecDepth 100000 in
theorem acts_of_trod (h : DataW.trod enc Try.prog w 0 spare held fuel 22 [v] = some x) : ∃ l : List Ac, RdActs w (· < w.heap.size) v l := by
  rcases DataW.trod_slice Try.underlying22 h with ⟨hcs, _⟩ | ⟨a, len, cap, elems, rest, n', hn', hcs, hx, _, hlc, hcm, hel, hall, _, _⟩
  · simp only [List.cons.injEq, and_true] at hcs
    subst hcs
    exact ⟨[], none, 0, [], rfl, ⟨Nat.le_refl _, Nat.zero_le _⟩, Rk.nil _ _ _ _, fun i a h => by simp at h⟩
  · simp only [List.cons.injEq, and_true] at hcs
    subst hcs
    obtain ⟨l, hl, hp⟩ := pickD (α := Ac × Bool × Option Addr × Nat × Nat) elems (fun i p _ => ∀ j, j < 5 → w.cell? (a.add (i * 5 + j)) = ([.int .i64 p.1.kind, .int .i64 p.1.at_, .int .u8 (p.1.c.toNat : Int), .bool p.2.1, .slice p.2.2.1 p.2.2.2.1 p.2.2.2.2] : List Value)[j]?) (fun i y hy => by
      have hi : i < len := by rw [← hel]; exact (List.getElem?_eq_some_iff.1 hy).1
      have h1 := hall i hi
      rw [hy, Option.bind_eq_some_iff, cellsDa] at h1
      obtain ⟨cs', hc', ht'⟩ := h1
      obtain ⟨_, hcl, hat⟩ := World.cells?_some hc'
      obtain ⟨xs, n, hn, hx, hl, hlen, hf⟩ := DataW.trod_struct Try.underlying32 ht'
      match cs', hcl with
      | [c0, c1, c2, c3, c4], _ =>
        match xs, hlen with
        | [y0, y1, y2, y3, y4], _ =>
          have t0 : DataW.trod enc Try.prog w 0 spare held n 3 [c0] = some y0 := by have := hf 0 _ rfl; simpa [cellsDi] using this
          have t1 : DataW.trod enc Try.prog w 0 spare held n 3 [c1] = some y1 := by have := hf 1 _ rfl; simpa [cellsDi] using this
          have t2 : DataW.trod enc Try.prog w 0 spare held n 5 [c2] = some y2 := by have := hf 2 _ rfl; simpa [cellsDu] using this
          obtain ⟨k, e0, _, _⟩ := DataW.trod_int Try.underlying3 t0
          obtain ⟨p, e1, _, _⟩ := DataW.trod_int Try.underlying3 t1
          obtain ⟨c, e2, _, wc⟩ := DataW.trod_int Try.underlying5 t2
          have t3 : DataW.trod enc Try.prog w 0 spare held n 4 [c3] = some y3 := by have := hf 3 _ rfl; simpa [cellsDb] using this
          have t4 : DataW.trod enc Try.prog w 0 spare held n 23 [c4] = some y4 := by have := hf 4 _ rfl; simpa [cellsDl] using this
          obtain ⟨b3, e3, _⟩ := DataW.trod_bool Try.underlying4 t3
          obtain ⟨A4, n4, k4, e4⟩ : ∃ A n c, c4 = .slice A n c := by
            rcases DataW.trod_slice Try.underlying23 t4 with ⟨hcs, _⟩ | ⟨a, len, cap, _, _, _, _, hcs, _⟩
            · simp only [List.cons.injEq, and_true] at hcs
              exact ⟨_, _, _, hcs⟩
            · simp only [List.cons.injEq, and_true] at hcs
              exact ⟨_, _, _, hcs⟩
          simp only [List.cons.injEq, and_true] at e0 e1 e2 e3
          subst e0 e1 e2 e3 e4
          have hwc := (Lit.wf_int_iff .u8 _).1 wc
          have hc0 : 0 ≤ c := hwc.1
          have hc1 : c ≤ 255 := hwc.2
          have hcn : ((UInt8.ofNat c.toNat).toNat : Int) = c := by
            rw [UInt8.toNat_ofNat']
            omega
          refine ⟨(⟨k, p, UInt8.ofNat c.toNat⟩, b3, A4, n4, k4), fun j hj => ?_⟩
          have := hat j hj
          rw [add_of_add] at this
          rw [this]
          dsimp only
          rw [hcn])
    have hll : l.length = len := by omega
    subst hll
    refine ⟨l.map Prod.fst, some a, cap, cellsA l, by simp, ⟨by simpa using hlc, hcm⟩, ⟨by rw [cellsA_len, List.length_map], fun h0 => ⟨a, rfl, ?_, fun j u hu => ?_⟩⟩, fun i b hb => ?_⟩
    · rw [List.length_map] at h0
      have h1 := hp 0 l[0] elems[0] (List.getElem?_eq_getElem (by omega)) (List.getElem?_eq_getElem (by omega)) 0 (by decide)
      have := block_lt_of_cell h1
      rwa [block_of_add] at this
    · have hj := (List.getElem?_eq_some_iff.1 hu).1
      rw [cellsA_len] at hj
      have hq : j / 5 < l.length := by omega
      have h1 := cellsA_at l (j / 5) (j % 5) l[j / 5] (List.getElem?_eq_getElem hq) (by omega)
      have h2 := hp (j / 5) l[j / 5] elems[j / 5] (List.getElem?_eq_getElem hq) (List.getElem?_eq_getElem (by omega)) (j % 5) (by omega)
      rw [show j / 5 * 5 + j % 5 = j by omega] at h1 h2
      rw [h2, ← h1, hu]
    · rw [List.getElem?_map, Option.map_eq_some_iff] at hb
      obtain ⟨p, hp1, rfl⟩ := hb
      have := fun j hj => cellsA_at l i j p hp1 hj
      exact ⟨this 0 (by decide), this 1 (by decide), this 2 (by decide), _, _, _, _, this 3 (by decide), this 4 (by decide)⟩
end
end Go.Proofs.Ytamojnejengipaa
