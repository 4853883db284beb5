/- Which rule is found: the program's Find, the reference's. -/
import Derived.Test.YtogpmihepfnoaaaDoorRuQ
namespace Go.Proofs.YtogpmihepfnoaaaDoor
open Go Go.RowKit Go.Sort

/-- The first rule of a class. -/
def fnd (rs : List Ru) (c : ByteArray) : Option Ru := rs.find? fun r => decide (r.cls = c)
def NoTo (rs : List Ru) (c : ByteArray) (k : Nat) : Prop := ∀ (j : Nat) (x : Ru), j < k → rs[j]? = some x → x.cls ≠ c
theorem NoTo.succ {rs : List Ru} {c : ByteArray} {k : Nat} {x : Ru} (h : NoTo rs c k) (hk : rs[k]? = some x) (hx : x.cls ≠ c) : NoTo rs c (k + 1) := by
  intro j y hj hy
  rcases Nat.lt_or_ge j k with hlt | hge
  · exact h j y hlt hy
  · obtain rfl : j = k := by omega
    obtain rfl := Option.some.inj (hk.symm.trans hy)
    exact hx
theorem NoTo.none {rs : List Ru} {c : ByteArray} (h : NoTo rs c rs.length) : fnd rs c = none := by
  unfold fnd
  rw [List.find?_eq_none]
  intro x hx
  obtain ⟨j, hj, rfl⟩ := List.getElem_of_mem hx
  simp only [decide_eq_true_eq]
  exact h j _ hj (List.getElem?_eq_getElem hj)
theorem NoTo.some {rs : List Ru} {c : ByteArray} {k : Nat} {x : Ru} (h : NoTo rs c k) (hk : rs[k]? = some x) (hx : x.cls = c) : fnd rs c = some x := by
  obtain ⟨hl, e⟩ := List.getElem?_eq_some_iff.1 hk
  unfold fnd
  rw [List.find?_eq_some_iff_getElem]
  refine ⟨by simp [hx], k, hl, e, fun j hj => ?_⟩
  have := h j _ hj (List.getElem?_eq_getElem (by omega))
  simp [this]
/-- Where the first rule of a class is. -/
def FI (rs : List Ru) (c : ByteArray) (e : Ending) : Prop := (∃ (i : Nat) (x : Ru), e = .returned (.int .i64 (i : Int)) ∧ rs[i]? = some x ∧ fnd rs c = some x) ∨ (e = .returned (.int .i64 (-1)) ∧ fnd rs c = none)
set_option maxRecDepth 100000 in
theorem fclos_any (c cl : ByteArray) (o1 y1 ac : Int) (m1 : ByteArray) (A1 : Option Addr) (n1 a1 bp : Nat) (w : World) (hb : Blk w bp 9 #[.string c]) : Calls Tryd.prog 56 #[.agg #[.string cl, .int .i64 o1, .int .i64 y1, .string m1, .slice A1 n1 a1, .int .i64 ac], .pointer (some ⟨bp, 0, none⟩)] w fun e w' => e = .returned (.bool (decide (cl = c))) ∧ Gr w w' := by
  have c0 : (w.alloc (.cells #[.string cl, .int .i64 o1, .int .i64 y1, .string m1, .slice A1 n1 a1, .int .i64 ac] 50)).cell? ⟨bp, 0, none⟩ = some (.string c) := (hb.alloc _).cell 0
  clear hb
  by_cases h : cl = c
  · subst h
    rw [decide_eq_true rfl]
    go_enter Tryd.func56, Tryd.ntmps56
    go_wp2
    go_ret
    exact ⟨rfl, Gr.alloc _ _⟩
  · rw [decide_eq_false h]
    obtain ⟨h1, h2⟩ := str_neq h
    have h3 : ¬ cl.toList = c.toList := by simpa using h2
    clear h
    go_enter Tryd.func56, Tryd.ntmps56
    go_wp2
    go_ret
    exact ⟨rfl, Gr.alloc _ _⟩
set_option maxRecDepth 100000 in
set_option maxHeartbeats 4000000 in
theorem fidx_any (rs : List Ru) (v : Value) (c : ByteArray) (bp : Nat) (w : World) (h : RdRus w (· < w.heap.size) v rs) (hb : Blk w bp 9 #[.string c]) :
    Calls Tryd.prog 55 #[v, .func (.func 56) #[] #[.pointer (some ⟨bp, 0, none⟩)]] w fun e w' => FI rs c e ∧ Gr w w' := by
  obtain ⟨A, cp, rfl, hc, hcm⟩ := h.form
  unfold maxLen at hcm
  go_enter Tryd.func55, Tryd.ntmps55
  go_wp2
  go_loopw [8] (fun v8 wr => ∃ k : Nat, v8 = .int .i64 (k : Int) ∧ k ≤ rs.length ∧ NoTo rs c k ∧ Gr w wr) (fun v8 _ => rs.length - (intOf v8).toNat)
  case atStart => exact ⟨0, rfl, Nat.zero_le _, fun j x hj _ => absurd hj (by omega), Gr.refl _⟩
  case round =>
    obtain ⟨k, rfl, hk, hT, hgw⟩ := hrel
    by_cases hlt : k < rs.length
    · obtain ⟨x, hxk⟩ : ∃ x, rs[k]? = some x := ⟨_, List.getElem?_eq_getElem hlt⟩
      obtain ⟨ad, P, v0, v1, v2, v3, rfl, eP, hP, c0, c1, c2, c3, c4, c5, hs, hsx⟩ := (h.gr hgw).at_ k _ hxk
      obtain ⟨o1, y1, m1, A1, n1, a1, rfl, rfl, rfl, rfl⟩ := hsx.four
      have cF := fclos_any c x.cls o1 y1 x.act m1 A1 n1 a1 bp wr (hb.below hgw hb.lt)
      by_cases hx : x.cls = c
      · have HF := Lib.hid (hT.some hxk hx)
        have HK := Lib.hid hxk
        rw [decide_eq_true hx] at cF
        clear hT hxk hx hsx
        obtain ⟨cl, wx, ac⟩ := x
        dsimp only at *
        go_wp2_with (go_at_call 56; (with_reducible refine cF.mono ?_); rintro e w1 ⟨rfl, hb1⟩)
        go_ret
        exact ⟨.inl ⟨k, _, rfl, HK.out, HF.out⟩, Gr.trans hgw hb1⟩
      · have HT := Lib.hid (hT.succ hxk hx)
        rw [decide_eq_false hx] at cF
        clear hT hxk hx hsx
        obtain ⟨cl, wx, ac⟩ := x
        dsimp only at *
        go_wp2_with (go_at_call 56; (with_reducible refine cF.mono ?_); rintro e w1 ⟨rfl, hb1⟩)
        go_roundw
        case rel => exact ⟨k + 1, by go_num, by omega, HT.out, Gr.trans hgw hb1⟩
        case measure => simp [intOf]; omega
    · obtain rfl : k = rs.length := by omega
      have HF := Lib.hid hT.none
      clear hT
      go_wp2
      go_ret
      exact ⟨.inr ⟨rfl, HF.out⟩, hgw⟩
/-- The rule that is found. -/
def findD (rs : List Ru) (c : ByteArray) : Ru × Bool := match fnd rs c with
  | some r => (r, true)
  | none => match fnd rs ⟨#[]⟩ with
    | some r => (r, true)
    | none => (⟨⟨#[]⟩, Ex.none_, 0⟩, false)
theorem findD_1 {rs : List Ru} {c : ByteArray} {r : Ru} (h : fnd rs c = some r) : findD rs c = (r, true) := by unfold findD; rw [h]
theorem findD_2 {rs : List Ru} {c : ByteArray} {r : Ru} (h : fnd rs c = none) (h2 : fnd rs ⟨#[]⟩ = some r) : findD rs c = (r, true) := by unfold findD; rw [h, h2]
theorem findD_3 {rs : List Ru} {c : ByteArray} (h : fnd rs c = none) (h2 : fnd rs ⟨#[]⟩ = none) : findD rs c = (⟨⟨#[]⟩, Ex.none_, 0⟩, false) := by unfold findD; rw [h, h2]
/-- What a finding hands back. -/
def FindP (d : Ru × Bool) (w : World) (e : Ending) (w' : World) : Prop := ∃ (o y : Int) (m : ByteArray) (A : Option Addr) (n a : Nat), e = .returned (.tuple #[.agg #[.string d.1.cls, .int .i64 o, .int .i64 y, .string m, .slice A n a, .int .i64 d.1.act], .bool d.2]) ∧ d.1.cls.size ≤ 140737488351232 ∧ RdEx w' (· < w'.heap.size) d.1.wh (.agg #[.int .i64 o, .int .i64 y, .string m, .slice A n a]) ∧ Gr w w'
theorem none_rd (w : World) : RdEx w (· < w.heap.size) Ex.none_ (.agg #[.int .i64 0, .int .i64 0, .string ⟨#[]⟩, .slice none 0 0]) := by
  unfold Ex.none_
  rw [RdEx]
  exact ⟨none, 0, [], rfl, ⟨Nat.le_refl _, Nat.zero_le _, by decide⟩, Rk.nil _ _ _ _, by rw [RdExL]⟩
abbrev set6w (w : World) (g : Nat) (y0 y1 y2 y3 y4 y5 : Value) : World := (((((w.setCell ⟨g, 0, none⟩ y0).setCell ⟨g, 1, none⟩ y1).setCell ⟨g, 2, none⟩ y2).setCell ⟨g, 3, none⟩ y3).setCell ⟨g, 4, none⟩ y4).setCell ⟨g, 5, none⟩ y5
theorem Blk.put6 {w : World} {g : Nat} {T : TypeId} {x0 x1 x2 x3 x4 x5 y0 y1 y2 y3 y4 y5 : Value} (h : Blk w g T #[x0, x1, x2, x3, x4, x5]) : Blk (set6w w g y0 y1 y2 y3 y4 y5) g T #[y0, y1, y2, y3, y4, y5] := by
  simpa using (((((h.set_ 0 y0).set_ 1 y1).set_ 2 y2).set_ 3 y3).set_ 4 y4).set_ 5 y5
theorem gr_put6 {a w : World} {g : Nat} {y0 y1 y2 y3 y4 y5 : Value} (h : Gr a w) (hg : a.heap.size ≤ g) : Gr a (set6w w g y0 y1 y2 y3 y4 y5) :=
  Below.setCell (Below.setCell (Below.setCell (Below.setCell (Below.setCell (Below.setCell h hg _) hg _) hg _) hg _) hg _) hg _
theorem six_all {W : World} {g : Nat} {T : TypeId} {x0 x1 x2 x3 x4 x5 : Value} (h : Blk W g T #[x0, x1, x2, x3, x4, x5]) : W.cell? ⟨g, 0, none⟩ = some x0 ∧ W.cell? ⟨g, 1, none⟩ = some x1 ∧ W.cell? ⟨g, 2, none⟩ = some x2 ∧ W.cell? ⟨g, 3, none⟩ = some x3 ∧ W.cell? ⟨g, 4, none⟩ = some x4 ∧ W.cell? ⟨g, 5, none⟩ = some x5 ∧
    W.frozen? ⟨g, 0, none⟩ = false ∧ W.frozen? ⟨g, 1, none⟩ = false ∧ W.frozen? ⟨g, 2, none⟩ = false ∧ W.frozen? ⟨g, 3, none⟩ = false ∧ W.frozen? ⟨g, 4, none⟩ = false ∧ W.frozen? ⟨g, 5, none⟩ = false :=
  ⟨h.cell 0, h.cell 1, h.cell 2, h.cell 3, h.cell 4, h.cell 5, h.frozen 0, h.frozen 1, h.frozen 2, h.frozen 3, h.frozen 4, h.frozen 5⟩
set_option maxRecDepth 100000 in
set_option maxHeartbeats 8000000 in
theorem rfind_any (rs : List Ru) (v : Value) (c : ByteArray) (w : World) (h : RdRus w (· < w.heap.size) v rs) : Calls Tryd.prog 29 #[v, .string c] w (FindP (findD rs c) w) := by
  obtain ⟨A, cp, rfl, hc, hcm⟩ := h.form
  unfold maxLen at hcm
  have HX1 := Lib.hid (fun r (h : fnd rs c = some r) => findD_1 h)
  have HX2 := Lib.hid (fun r (h : fnd rs c = none) (h2 : fnd rs ⟨#[]⟩ = some r) => findD_2 h h2)
  have HX3 := Lib.hid (fun (h : fnd rs c = none) h2 => findD_3 h h2)
  generalize findD rs c = D at *
  generalize hPost : FindP D w = Post
  have HPost := Lib.hid hPost
  clear hPost
  go_enter Tryd.func29, Tryd.ntmps29
  go_wp2
  go_loopw [6] (fun v6 wr => ∃ k : Nat, v6 = .int .i64 (k : Int) ∧ k ≤ rs.length ∧ NoTo rs c k ∧ Gr w wr ∧ Blk wr w.heap.size 50 #[.string ⟨#[]⟩, .int .i64 0, .int .i64 0, .string ⟨#[]⟩, .slice none 0 0, .int .i64 0]) (fun v6 _ => rs.length - (intOf v6).toNat)
  case atStart => exact ⟨0, rfl, Nat.zero_le _, fun j x hj _ => absurd hj (by omega), Gr.alloc _ _, Blk.new _ _ _⟩
  case round =>
    obtain ⟨k, rfl, hk, hT, hgw, hB⟩ := hrel
    by_cases hlt : k < rs.length
    · obtain ⟨x, hxk⟩ : ∃ x, rs[k]? = some x := ⟨_, List.getElem?_eq_getElem hlt⟩
      obtain ⟨ad, P, v0, v1, v2, v3, rfl, eP, hP, c0', c1', c2', c3', c4', c5', hs, hsx⟩ := h.at_ k _ hxk
      have c0 := (hgw.cell (p := P) hP).trans c0'
      have c1 := (hgw.cell (p := ⟨P.block, P.off + 1, none⟩) hP).trans c1'
      have c2 := (hgw.cell (p := ⟨P.block, P.off + 2, none⟩) hP).trans c2'
      have c3 := (hgw.cell (p := ⟨P.block, P.off + 3, none⟩) hP).trans c3'
      have c4 := (hgw.cell (p := ⟨P.block, P.off + 4, none⟩) hP).trans c4'
      have c5 := (hgw.cell (p := ⟨P.block, P.off + 5, none⟩) hP).trans c5'
      clear c0' c1' c2' c3' c4' c5'
      obtain ⟨o1, y1, m1, A1, n1, a1, rfl, rfl, rfl, rfl⟩ := hsx.four
      by_cases hx : x.cls = c
      · have hd := HX1.out _ (hT.some hxk hx)
        have HD := Lib.hid hd
        clear hT hxk hd
        obtain ⟨cl, wx, ac⟩ := x
        dsimp only at *
        subst hx
        obtain ⟨q0, q1, q2, q3, q4, q5, g0, g1, g2, g3, g4, g5⟩ := six_all hB
        go_wp2
        obtain ⟨z0, z1, z2, z3, z4, z5⟩ := six_cells (Blk.put6 hB (y0 := .string cl) (y1 := .int .i64 o1) (y2 := .int .i64 y1) (y3 := .string m1) (y4 := .slice A1 n1 a1) (y5 := .int .i64 ac))
        refine bodyPost_ret (v := .tuple #[.agg #[.string cl, .int .i64 o1, .int .i64 y1, .string m1, .slice A1 n1 a1, .int .i64 ac], .bool true]) (by simp [results, Tryd.results29, go_sem, z0, z1, z2, z3, z4, z5]) rfl ?_
        rw [← HPost.out, HD.out]
        exact ⟨o1, y1, m1, A1, n1, a1, rfl, hs, hsx.gr (gr_put6 hgw (Nat.le_refl _)), gr_put6 hgw (Nat.le_refl _)⟩
      · have HT := Lib.hid (hT.succ hxk hx)
        obtain ⟨s1, s2⟩ := str_neq hx
        have s3 : ¬ x.cls.toList = c.toList := by simpa using s2
        clear hT hxk hx hsx
        obtain ⟨cl, wx, ac⟩ := x
        dsimp only at *
        go_wp2
        go_roundw
        case rel => exact ⟨k + 1, by go_num, by omega, HT.out, hgw, hB⟩
        case measure => simp [intOf]; omega
    · obtain rfl : k = rs.length := by omega
      have HN := Lib.hid hT.none
      clear hT
      go_wp2
      go_loopw [7] (fun v7 wr => ∃ k : Nat, v7 = .int .i64 (k : Int) ∧ k ≤ rs.length ∧ NoTo rs ⟨#[]⟩ k ∧ Gr w wr ∧ Blk wr w.heap.size 50 #[.string ⟨#[]⟩, .int .i64 0, .int .i64 0, .string ⟨#[]⟩, .slice none 0 0, .int .i64 0]) (fun v7 _ => rs.length - (intOf v7).toNat)
      case atStart => exact ⟨0, rfl, Nat.zero_le _, fun j x hj _ => absurd hj (by omega), hgw, hB⟩
      case round =>
        obtain ⟨i, rfl, hi, hT, hg2, hB2⟩ := hrel
        by_cases hil : i < rs.length
        · obtain ⟨x, hxk⟩ : ∃ x, rs[i]? = some x := ⟨_, List.getElem?_eq_getElem hil⟩
          obtain ⟨ad, P, v0, v1, v2, v3, rfl, eP, hP, c0', c1', c2', c3', c4', c5', hs, hsx⟩ := h.at_ i _ hxk
          have c0 := (hg2.cell (p := P) hP).trans c0'
          have c1 := (hg2.cell (p := ⟨P.block, P.off + 1, none⟩) hP).trans c1'
          have c2 := (hg2.cell (p := ⟨P.block, P.off + 2, none⟩) hP).trans c2'
          have c3 := (hg2.cell (p := ⟨P.block, P.off + 3, none⟩) hP).trans c3'
          have c4 := (hg2.cell (p := ⟨P.block, P.off + 4, none⟩) hP).trans c4'
          have c5 := (hg2.cell (p := ⟨P.block, P.off + 5, none⟩) hP).trans c5'
          clear c0' c1' c2' c3' c4' c5'
          obtain ⟨o1, y1, m1, A1, n1, a1, rfl, rfl, rfl, rfl⟩ := hsx.four
          by_cases hx : x.cls = ⟨#[]⟩
          · have hd := HX2.out _ HN.out (hT.some hxk hx)
            have HD := Lib.hid hd
            clear hT hxk hd
            obtain ⟨cl, wx, ac⟩ := x
            dsimp only at *
            subst hx
            obtain ⟨q0, q1, q2, q3, q4, q5, g0, g1, g2, g3, g4, g5⟩ := six_all hB2
            go_wp2
            obtain ⟨z0, z1, z2, z3, z4, z5⟩ := six_cells (Blk.put6 hB2 (y0 := .string ⟨#[]⟩) (y1 := .int .i64 o1) (y2 := .int .i64 y1) (y3 := .string m1) (y4 := .slice A1 n1 a1) (y5 := .int .i64 ac))
            refine bodyPost_ret (v := .tuple #[.agg #[.string ⟨#[]⟩, .int .i64 o1, .int .i64 y1, .string m1, .slice A1 n1 a1, .int .i64 ac], .bool true]) (by simp [results, Tryd.results29, go_sem, z0, z1, z2, z3, z4, z5]) rfl ?_
            rw [← HPost.out, HD.out]
            exact ⟨o1, y1, m1, A1, n1, a1, rfl, hs, hsx.gr (gr_put6 hg2 (Nat.le_refl _)), gr_put6 hg2 (Nat.le_refl _)⟩
          · have HT := Lib.hid (hT.succ hxk hx)
            obtain ⟨s1, s2, s3⟩ := str_nil (fun e => hx (str_zero e))
            clear hT hxk hx hsx
            obtain ⟨cl, wx, ac⟩ := x
            dsimp only at *
            go_wp2
            go_roundw
            case rel => exact ⟨i + 1, by go_num, by omega, HT.out, hg2, hB2⟩
            case measure => simp [intOf]; omega
        · obtain rfl : i = rs.length := by omega
          have hd := HX3.out HN.out hT.none
          have HD := Lib.hid hd
          clear hT hd
          obtain ⟨q0, q1, q2, q3, q4, q5, g0, g1, g2, g3, g4, g5⟩ := six_all hB2
          go_wp2
          obtain ⟨z0, z1, z2, z3, z4, z5⟩ := six_cells (Blk.put6 hB2 (y0 := .string ⟨#[]⟩) (y1 := .int .i64 0) (y2 := .int .i64 0) (y3 := .string ⟨#[]⟩) (y4 := .slice none 0 0) (y5 := .int .i64 0))
          refine bodyPost_ret (v := .tuple #[.agg #[.string ⟨#[]⟩, .int .i64 0, .int .i64 0, .string ⟨#[]⟩, .slice none 0 0, .int .i64 0], .bool false]) (by simp [results, Tryd.results29, go_sem, z0, z1, z2, z3, z4, z5]) rfl ?_
          rw [← HPost.out, HD.out]
          exact ⟨0, 0, ⟨#[]⟩, none, 0, 0, rfl, by decide, none_rd _, gr_put6 hg2 (Nat.le_refl _)⟩
theorem fidx_some {rs : List Ru} {c : ByteArray} {x : Ru} (h : fnd rs c = some x) {e : Ending} (hF : FI rs c e) : ∃ i : Nat, e = .returned (.int .i64 (i : Int)) ∧ rs[i]? = some x := by
  rcases hF with ⟨i, y, e1, e2, e3⟩ | ⟨_, e3⟩
  · rw [h] at e3
    obtain rfl := Option.some.inj e3
    exact ⟨i, e1, e2⟩
  · rw [h] at e3; cases e3
theorem fidx_none {rs : List Ru} {c : ByteArray} (h : fnd rs c = none) {e : Ending} (hF : FI rs c e) : e = .returned (.int .i64 (-1)) := by
  rcases hF with ⟨i, y, e1, e2, e3⟩ | ⟨e1, _⟩
  · rw [h] at e3; cases e3
  · exact e1
set_option maxRecDepth 100000 in
set_option maxHeartbeats 8000000 in
theorem pfind_any (rs : List Ru) (v : Value) (c : ByteArray) (w : World) (h : RdRus w (· < w.heap.size) v rs) : Calls Tryd.prog 28 #[v, .string c] w (FindP (findD rs c) w) := by
  have cI := fun W c bp hg (hb : Blk W bp 9 #[.string c]) => fidx_any rs v c bp W (h.gr hg) hb
  obtain ⟨A, cp, rfl, hc, hcm⟩ := h.form
  unfold maxLen at hcm
  have HX1 := Lib.hid (fun r (h : fnd rs c = some r) => findD_1 h)
  have HX2 := Lib.hid (fun r (h : fnd rs c = none) (h2 : fnd rs ⟨#[]⟩ = some r) => findD_2 h h2)
  have HX3 := Lib.hid (fun (h : fnd rs c = none) h2 => findD_3 h h2)
  generalize findD rs c = D at *
  generalize hPost : FindP D w = Post
  have HPost := Lib.hid hPost
  clear hPost
  go_enter Tryd.func28, Tryd.ntmps28
  go_wp2
  go_loopw [12] (fun v12 wr => ∃ k : Nat, v12 = .int .i64 (k : Int) ∧ k ≤ 2 ∧ (1 ≤ k → fnd rs c = none) ∧ (2 ≤ k → fnd rs ⟨#[]⟩ = none) ∧ Gr w wr ∧ Blk wr w.heap.size 50 #[.string ⟨#[]⟩, .int .i64 0, .int .i64 0, .string ⟨#[]⟩, .slice none 0 0, .int .i64 0] ∧ Blk wr (w.heap.size + 1) 9 #[.string c, .string ⟨#[]⟩]) (fun v12 _ => 2 - (intOf v12).toNat)
  case atStart =>
    refine ⟨0, rfl, by omega, fun h => by omega, fun h => by omega, Gr.trans (Gr.alloc _ _) (Gr.alloc _ _), (Blk.new _ _ _).alloc _, ?_⟩
    have h2 := Blk.new (w.alloc (.cells #[.string ⟨#[]⟩, .int .i64 0, .int .i64 0, .string ⟨#[]⟩, .slice none 0 0, .int .i64 0] 50)) 9 #[.string c, .string ⟨#[]⟩]
    rwa [show (w.alloc (.cells #[.string ⟨#[]⟩, .int .i64 0, .int .i64 0, .string ⟨#[]⟩, .slice none 0 0, .int .i64 0] 50)).heap.size = w.heap.size + 1 by simp] at h2
  case round =>
    obtain ⟨k, rfl, hk, hn1, hn2, hgw, hB, hL⟩ := hrel
    have l0 := hL.cell 0
    have l1 := hL.cell 1
    have hN1 := Lib.hid hn1
    have hN2 := Lib.hid hn2
    clear hn1 hn2
    rcases (by omega : k = 0 ∨ k = 1 ∨ k = 2) with rfl | rfl | rfl
    · have cI1 := cI _ c wr.heap.size (Gr.trans hgw (Gr.alloc wr (.cells #[.string c] 9))) (Blk.new wr _ _)
      have hG1 := Gr.alloc wr (.cells #[.string c] 9)
      cases hf : fnd rs c with
      | some x =>
        have hd := HX1.out _ hf
        have HD := Lib.hid hd
        have cI2 := cI1.mono fun e w' h2 => (⟨fidx_some hf h2.1, h2.2⟩ : (∃ i : Nat, e = .returned (.int .i64 (i : Int)) ∧ rs[i]? = some x) ∧ Gr _ w')
        clear cI1 cI hf hd
        obtain ⟨cl, wx, ac⟩ := x
        go_wp2_with (go_at_call 55; (with_reducible refine cI2.mono ?_); rintro e w1 ⟨⟨i, rfl, hxi⟩, hb1⟩
                     have hG2 := Gr.trans (Gr.trans hgw hG1) hb1
                     have hil := (List.getElem?_eq_some_iff.1 hxi).1
                     obtain ⟨ad, P, v0, v1, v2, v3, e0, eP, hP, c0', c1', c2', c3', c4', c5', hs, hsx⟩ := h.at_ i _ hxi
                     subst e0
                     have c0 := (hG2.cell (p := P) hP).trans c0'
                     have c1 := (hG2.cell (p := ⟨P.block, P.off + 1, none⟩) hP).trans c1'
                     have c2 := (hG2.cell (p := ⟨P.block, P.off + 2, none⟩) hP).trans c2'
                     have c3 := (hG2.cell (p := ⟨P.block, P.off + 3, none⟩) hP).trans c3'
                     have c4 := (hG2.cell (p := ⟨P.block, P.off + 4, none⟩) hP).trans c4'
                     have c5 := (hG2.cell (p := ⟨P.block, P.off + 5, none⟩) hP).trans c5'
                     dsimp only at c0 c5 hs hsx
                     clear c0' c1' c2' c3' c4' c5' hxi
                     obtain ⟨o1, y1, m1, A1, n1, a1, f0, f1, f2, f3⟩ := hsx.four
                     subst f0 f1 f2 f3
                     have hB2 := hB.below (Gr.trans hG1 hb1) hB.lt
                     obtain ⟨q0, q1, q2, q3, q4, q5, g0, g1, g2, g3, g4, g5⟩ := six_all hB2)
        obtain ⟨z0, z1, z2, z3, z4, z5⟩ := six_cells (Blk.put6 hB2 (y0 := .string cl) (y1 := .int .i64 o1) (y2 := .int .i64 y1) (y3 := .string m1) (y4 := .slice A1 n1 a1) (y5 := .int .i64 ac))
        refine bodyPost_ret (v := .tuple #[.agg #[.string cl, .int .i64 o1, .int .i64 y1, .string m1, .slice A1 n1 a1, .int .i64 ac], .bool true]) (by simp [results, Tryd.results28, go_sem, z0, z1, z2, z3, z4, z5]) rfl ?_
        rw [← HPost.out, HD.out]
        exact ⟨o1, y1, m1, A1, n1, a1, rfl, hs, hsx.gr (gr_put6 hG2 (Nat.le_refl _)), gr_put6 hG2 (Nat.le_refl _)⟩
      | none =>
        have cI2 := cI1.mono fun e w' h2 => (⟨fidx_none hf h2.1, h2.2⟩ : e = .returned (.int .i64 (-1)) ∧ Gr _ w')
        have HF := Lib.hid hf
        clear cI1 cI hf
        go_wp2_with (go_at_call 55; (with_reducible refine cI2.mono ?_); rintro e w1 ⟨rfl, hb1⟩)
        go_roundw
        case rel => exact ⟨1, by go_num, by omega, fun _ => (by first | exact HF.out | trivial), fun h => by omega, Gr.trans (Gr.trans hgw hG1) hb1, hB.below (Gr.trans hG1 hb1) hB.lt, hL.below (Gr.trans hG1 hb1) hL.lt⟩
        case measure => simp [intOf]
    · have cI1 := cI _ ⟨#[]⟩ wr.heap.size (Gr.trans hgw (Gr.alloc wr (.cells #[.string ⟨#[]⟩] 9))) (Blk.new wr _ _)
      have hG1 := Gr.alloc wr (.cells #[.string ⟨#[]⟩] 9)
      cases hf : fnd rs ⟨#[]⟩ with
      | some x =>
        have hd := HX2.out _ (hN1.out (by omega)) hf
        have HD := Lib.hid hd
        have cI2 := cI1.mono fun e w' h2 => (⟨fidx_some hf h2.1, h2.2⟩ : (∃ i : Nat, e = .returned (.int .i64 (i : Int)) ∧ rs[i]? = some x) ∧ Gr _ w')
        clear cI1 cI hf hd
        obtain ⟨cl, wx, ac⟩ := x
        go_wp2_with (go_at_call 55; (with_reducible refine cI2.mono ?_); rintro e w1 ⟨⟨i, rfl, hxi⟩, hb1⟩
                     have hG2 := Gr.trans (Gr.trans hgw hG1) hb1
                     have hil := (List.getElem?_eq_some_iff.1 hxi).1
                     obtain ⟨ad, P, v0, v1, v2, v3, e0, eP, hP, c0', c1', c2', c3', c4', c5', hs, hsx⟩ := h.at_ i _ hxi
                     subst e0
                     have c0 := (hG2.cell (p := P) hP).trans c0'
                     have c1 := (hG2.cell (p := ⟨P.block, P.off + 1, none⟩) hP).trans c1'
                     have c2 := (hG2.cell (p := ⟨P.block, P.off + 2, none⟩) hP).trans c2'
                     have c3 := (hG2.cell (p := ⟨P.block, P.off + 3, none⟩) hP).trans c3'
                     have c4 := (hG2.cell (p := ⟨P.block, P.off + 4, none⟩) hP).trans c4'
                     have c5 := (hG2.cell (p := ⟨P.block, P.off + 5, none⟩) hP).trans c5'
                     dsimp only at c0 c5 hs hsx
                     clear c0' c1' c2' c3' c4' c5' hxi
                     obtain ⟨o1, y1, m1, A1, n1, a1, f0, f1, f2, f3⟩ := hsx.four
                     subst f0 f1 f2 f3
                     have hB2 := hB.below (Gr.trans hG1 hb1) hB.lt
                     obtain ⟨q0, q1, q2, q3, q4, q5, g0, g1, g2, g3, g4, g5⟩ := six_all hB2)
        obtain ⟨z0, z1, z2, z3, z4, z5⟩ := six_cells (Blk.put6 hB2 (y0 := .string cl) (y1 := .int .i64 o1) (y2 := .int .i64 y1) (y3 := .string m1) (y4 := .slice A1 n1 a1) (y5 := .int .i64 ac))
        refine bodyPost_ret (v := .tuple #[.agg #[.string cl, .int .i64 o1, .int .i64 y1, .string m1, .slice A1 n1 a1, .int .i64 ac], .bool true]) (by simp [results, Tryd.results28, go_sem, z0, z1, z2, z3, z4, z5]) rfl ?_
        rw [← HPost.out, HD.out]
        exact ⟨o1, y1, m1, A1, n1, a1, rfl, hs, hsx.gr (gr_put6 hG2 (Nat.le_refl _)), gr_put6 hG2 (Nat.le_refl _)⟩
      | none =>
        have cI2 := cI1.mono fun e w' h2 => (⟨fidx_none hf h2.1, h2.2⟩ : e = .returned (.int .i64 (-1)) ∧ Gr _ w')
        have HF := Lib.hid hf
        clear cI1 cI hf
        go_wp2_with (go_at_call 55; (with_reducible refine cI2.mono ?_); rintro e w1 ⟨rfl, hb1⟩)
        go_roundw
        case rel => exact ⟨2, by go_num, by omega, fun _ => hN1.out (by omega), fun h => (by first | exact HF.out | trivial), Gr.trans (Gr.trans hgw hG1) hb1, hB.below (Gr.trans hG1 hb1) hB.lt, hL.below (Gr.trans hG1 hb1) hL.lt⟩
        case measure => simp [intOf]
    · have hd := HX3.out (hN1.out (by omega)) (hN2.out (by omega))
      have HD := Lib.hid hd
      clear hd cI
      obtain ⟨q0, q1, q2, q3, q4, q5, g0, g1, g2, g3, g4, g5⟩ := six_all hB
      go_wp2
      obtain ⟨z0, z1, z2, z3, z4, z5⟩ := six_cells (Blk.put6 hB (y0 := .string ⟨#[]⟩) (y1 := .int .i64 0) (y2 := .int .i64 0) (y3 := .string ⟨#[]⟩) (y4 := .slice none 0 0) (y5 := .int .i64 0))
      refine bodyPost_ret (v := .tuple #[.agg #[.string ⟨#[]⟩, .int .i64 0, .int .i64 0, .string ⟨#[]⟩, .slice none 0 0, .int .i64 0], .bool false]) (by simp [results, Tryd.results28, go_sem, z0, z1, z2, z3, z4, z5]) rfl ?_
      rw [← HPost.out, HD.out]
      exact ⟨0, 0, ⟨#[]⟩, none, 0, 0, rfl, by decide, none_rd _, gr_put6 hgw (Nat.le_refl _)⟩
end Go.Proofs.YtogpmihepfnoaaaDoor
