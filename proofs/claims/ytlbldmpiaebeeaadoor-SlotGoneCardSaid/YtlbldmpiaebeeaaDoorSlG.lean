/- Arguments of the law SlotGone: lists of acts; a crash: what a datum that is read says of memory. -/
import Derived.Test.YtlbldmpiaebeeaaDoorSlF
namespace Go.Proofs.YtlbldmpiaebeeaaDoor
open Go Go.RowKit Go.Deep Go.ChangeShapes Go.WideShapes

section
variable {H : Type} {enc : TypeId × Value → H} {w : World} {spare : Nat → Bool} {held : Bool} {fuel : Nat} {v : Value} {x : DataW H × List MemPlace}
theorem cellsSi : Tryd.prog.cellsOf 3 = 1 := by kernel_rfl
theorem cellsSu : Tryd.prog.cellsOf 5 = 1 := by kernel_rfl
theorem cellsSl : Tryd.prog.cellsOf 22 = 1 := by kernel_rfl
theorem cellsSb : Tryd.prog.cellsOf 28 = 1 := by kernel_rfl
theorem cellsSc : Tryd.prog.cellsOf 42 = 2 := by kernel_rfl
theorem cellsSa : Tryd.prog.cellsOf 45 = 3 := by kernel_rfl
theorem bytes_of_trod (h : DataW.trod enc Tryd.prog w 0 spare held fuel 22 [v] = some x) : ∃ l : List UInt8, RkB w (· < w.heap.size) v l := by
  rcases DataW.trod_slice Tryd.underlying22 h with ⟨hcs, _⟩ | ⟨a, len, cap, elems, rest, n', hn', hcs, hx, _, hlc, hcm, hel, hall, _, _⟩
  · simp only [List.cons.injEq, and_true] at hcs
    subst hcs
    exact ⟨[], RkB.nil _ _⟩
  · simp only [List.cons.injEq, and_true] at hcs
    subst hcs
    obtain ⟨l, hl, hp⟩ := pickD (α := UInt8) elems (fun i b _ => w.cell? (a.add i) = some (.int .u8 (b.toNat : Int))) (fun i y hy => by
      have hi : i < len := by rw [← hel]; exact (List.getElem?_eq_some_iff.1 hy).1
      have h1 := hall i hi
      rw [hy, Option.bind_eq_some_iff, cellsSu] at h1
      obtain ⟨cs', hc', ht'⟩ := h1
      obtain ⟨_, hcl, hat⟩ := World.cells?_some hc'
      obtain ⟨c, e, _, wc⟩ := DataW.trod_int Tryd.underlying5 ht'
      subst e
      have hwc := (Lit.wf_int_iff .u8 _).1 wc
      have hc0 : 0 ≤ c := hwc.1
      have hc1 : c ≤ 255 := hwc.2
      have hcn : ((UInt8.ofNat c.toNat).toNat : Int) = c := by
        rw [UInt8.toNat_ofNat']
        omega
      refine ⟨UInt8.ofNat c.toNat, ?_⟩
      rw [hcn]
      have := hat 0 (by omega)
      simpa [Addr.add] using this)
    have hll : l.length = len := by omega
    subst hll
    refine ⟨l, some a, cap, rfl, hlc, by rw [bvs_lenS, Nat.mul_one], fun h0 => ⟨a, rfl, ?_, fun j u hu => ?_⟩⟩
    · have := block_lt_of_cell (hp 0 l[0] elems[0] (List.getElem?_eq_getElem (by omega)) (List.getElem?_eq_getElem (by omega)))
      rwa [block_of_add] at this
    · unfold bvs at hu
      rw [List.getElem?_map, Option.map_eq_some_iff] at hu
      obtain ⟨b, hb, rfl⟩ := hu
      have hj := (List.getElem?_eq_some_iff.1 hb).1
      exact hp j b _ hb (List.getElem?_eq_getElem (by omega))
/-- The cells of acts. -/
def cellsS (l : List (Sa × Option Addr × Nat)) : List Value := l.flatMap fun p => [.int .i64 p.1.kind, .int .i64 p.1.at_, .slice p.2.1 p.1.b.length p.2.2]
theorem cellsS_len (l : List (Sa × Option Addr × Nat)) : (cellsS l).length = l.length * 3 := by
  unfold cellsS
  induction l with
  | nil => rfl
  | cons p l ih => rw [List.flatMap_cons, List.length_append, ih, List.length_cons]; simp only [List.length_cons, List.length_nil]; omega
theorem cellsS_at : ∀ (l : List (Sa × Option Addr × Nat)) (i j : Nat) (p : Sa × Option Addr × Nat), l[i]? = some p → j < 3 → (cellsS l)[i * 3 + j]? = ([.int .i64 p.1.kind, .int .i64 p.1.at_, .slice p.2.1 p.1.b.length p.2.2] : List Value)[j]?
  | [], _, _, _, h, _ => by simp at h
  | q :: l, 0, j, p, h, hj => by
    simp only [List.getElem?_cons_zero, Option.some.injEq] at h
    subst h
    unfold cellsS
    rw [List.flatMap_cons, List.getElem?_append_left (by simp only [List.length_cons, List.length_nil]; omega), Nat.zero_mul, Nat.zero_add]
  | q :: l, i + 1, j, p, h, hj => by
    simp only [List.getElem?_cons_succ] at h
    have ih := cellsS_at l i j p h hj
    unfold cellsS at ih ⊢
    rw [List.flatMap_cons, List.getElem?_append_right (by simp only [List.length_cons, List.length_nil]; omega)]
    rw [← ih]
    congr 1
    simp only [List.length_cons, List.length_nil]
    omega
set_option maxRecDepth 100000 in
theorem sas_of_trod (h : DataW.trod enc Tryd.prog w 0 spare held fuel 40 [v] = some x) : ∃ l : List Sa, RdSas w (· < w.heap.size) v l := by
  rcases DataW.trod_slice Tryd.underlying40 h with ⟨hcs, _⟩ | ⟨a, len, cap, elems, rest, n', hn', hcs, hx, _, hlc, hcm, hel, hall, _, _⟩
  · simp only [List.cons.injEq, and_true] at hcs
    subst hcs
    exact ⟨[], none, 0, [], rfl, ⟨Nat.le_refl _, Nat.zero_le _⟩, Rk.nil _ _ _ _, fun i a h => by simp at h⟩
  · simp only [List.cons.injEq, and_true] at hcs
    subst hcs
    obtain ⟨l, hl, hp⟩ := pickD (α := Sa × Option Addr × Nat) elems (fun i p _ => RkB w (· < w.heap.size) (.slice p.2.1 p.1.b.length p.2.2) p.1.b ∧ ∀ j, j < 3 → w.cell? (a.add (i * 3 + j)) = ([.int .i64 p.1.kind, .int .i64 p.1.at_, .slice p.2.1 p.1.b.length p.2.2] : List Value)[j]?) (fun i y hy => by
      have hi : i < len := by rw [← hel]; exact (List.getElem?_eq_some_iff.1 hy).1
      have h1 := hall i hi
      rw [hy, Option.bind_eq_some_iff, cellsSa] at h1
      obtain ⟨cs', hc', ht'⟩ := h1
      obtain ⟨_, hcl, hat⟩ := World.cells?_some hc'
      obtain ⟨xs, n, hn, hx, hl, hlen, hf⟩ := DataW.trod_struct Tryd.underlying45 ht'
      match cs', hcl with
      | [c0, c1, c2], _ =>
        match xs, hlen with
        | [y0, y1, y2], _ =>
          have t0 : DataW.trod enc Tryd.prog w 0 spare held n 3 [c0] = some y0 := by have := hf 0 _ rfl; simpa [cellsSi] using this
          have t1 : DataW.trod enc Tryd.prog w 0 spare held n 3 [c1] = some y1 := by have := hf 1 _ rfl; simpa [cellsSi] using this
          have t2 : DataW.trod enc Tryd.prog w 0 spare held n 22 [c2] = some y2 := by have := hf 2 _ rfl; simpa [cellsSl] using this
          obtain ⟨k, e0, _, _⟩ := DataW.trod_int Tryd.underlying3 t0
          obtain ⟨p, e1, _, _⟩ := DataW.trod_int Tryd.underlying3 t1
          obtain ⟨b, hb⟩ := bytes_of_trod t2
          obtain ⟨A2, n2, e2, _⟩ := id hb
          simp only [List.cons.injEq, and_true] at e0 e1
          subst e0 e1 e2
          refine ⟨(⟨k, p, b⟩, A2, n2), hb, fun j hj => ?_⟩
          have := hat j hj
          rw [add_of_add] at this
          exact this)
    have hll : l.length = len := by omega
    subst hll
    refine ⟨l.map Prod.fst, some a, cap, cellsS l, by simp, ⟨by simpa using hlc, hcm⟩, ⟨by rw [cellsS_len, List.length_map], fun h0 => ⟨a, rfl, ?_, fun j u hu => ?_⟩⟩, fun i b hb => ?_⟩
    · rw [List.length_map] at h0
      have h1 := (hp 0 l[0] elems[0] (List.getElem?_eq_getElem (by omega)) (List.getElem?_eq_getElem (by omega))).2 0 (by decide)
      have := block_lt_of_cell h1
      rwa [block_of_add] at this
    · have hj := (List.getElem?_eq_some_iff.1 hu).1
      rw [cellsS_len] at hj
      have hq : j / 3 < l.length := by omega
      have h1 := cellsS_at l (j / 3) (j % 3) l[j / 3] (List.getElem?_eq_getElem hq) (by omega)
      have h2 := (hp (j / 3) l[j / 3] elems[j / 3] (List.getElem?_eq_getElem hq) (List.getElem?_eq_getElem (by omega))).2 (j % 3) (by omega)
      rw [show j / 3 * 3 + j % 3 = j by omega] at h1 h2
      rw [h2, ← h1, hu]
    · rw [List.getElem?_map, Option.map_eq_some_iff] at hb
      obtain ⟨p, hp1, rfl⟩ := hb
      have hi := (List.getElem?_eq_some_iff.1 hp1).1
      have := fun j hj => cellsS_at l i j p hp1 hj
      exact ⟨this 0 (by decide), this 1 (by decide), _, _, this 2 (by decide), (hp i p elems[i] hp1 (List.getElem?_eq_getElem (by omega))).1⟩
end
set_option maxRecDepth 100000 in
theorem crash_of_Trod {H : Type} {enc : TypeId × Value → H} {w : World} {spare : Nat → Bool} {held : Bool} {r : Reach} {b0 : Nat} {v : Value} {d : DataW H} {p : List MemPlace} (hv : Value.okWide Tryd.prog w r b0 42 v) (h : DataW.Trod enc Tryd.prog w 0 spare held 42 v d p) :
    ∃ (f : Int) (A : Option Addr) (n c : Nat) (keep : List Bool), v = .agg #[.int .i64 f, .slice A n c] ∧ (Lit.int .i64 f).wf = true ∧ RdBools w (· < w.heap.size) (.slice A n c) keep := by
  obtain ⟨cs, rfl, hsz⟩ := okWide_struct Tryd.underlying42 hv
  obtain ⟨fuel, hf⟩ := h
  obtain ⟨xs, n, hn, hx, hl, hlen, hfl⟩ := DataW.trod_struct Tryd.underlying42 hf
  have hcl : (Value.cells (.agg cs)).toList.length = 2 := by
    simpa [Value.cells, cellsSc] using hsz
  obtain ⟨l, hlc⟩ : ∃ l : List Value, (Value.cells (.agg cs)).toList = l := ⟨_, rfl⟩
  rw [hlc] at hfl hcl
  match l, hcl with
  | [c0, c1], _ =>
    match xs, hlen with
    | [y0, y1], _ =>
      have t0 : DataW.trod enc Tryd.prog w 0 spare held n 3 [c0] = some y0 := by have := hfl 0 _ rfl; simpa [cellsSi] using this
      have t1 : DataW.trod enc Tryd.prog w 0 spare held n 28 [c1] = some y1 := by have := hfl 1 _ rfl; simpa [cellsSb] using this
      obtain ⟨k, e0, _, wk⟩ := DataW.trod_int Tryd.underlying3 t0
      obtain ⟨keep, hk⟩ := bools_of_trod t1
      obtain ⟨A, c, e1, _⟩ := id hk
      simp only [List.cons.injEq, and_true] at e0
      subst e0 e1
      obtain rfl : cs = #[.int .i64 k, .slice A keep.length c] := by simpa [Value.cells] using congrArg List.toArray hlc
      exact ⟨k, A, _, c, keep, rfl, wk, hk⟩
end Go.Proofs.YtlbldmpiaebeeaaDoor
