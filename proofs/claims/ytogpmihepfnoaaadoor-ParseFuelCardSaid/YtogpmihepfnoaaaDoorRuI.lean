/- Are conditions, and rules, the same? -/
import Derived.Test.YtogpmihepfnoaaaDoorRuC
import Derived.Test.YtogpmihepfnoaaaDoorRuT
namespace Go.Proofs.YtogpmihepfnoaaaDoor
open Go Go.RowKit Go.Sort

theorem exEq_no {x y : Ex} (h : x ≠ y) : exEq x y = false := by
  rw [Bool.eq_false_iff]
  exact fun e => h (exEq_eq x y e)
theorem exEqL_no {x y : List Ex} (h : x ≠ y) : exEqL x y = false := by
  rw [Bool.eq_false_iff]
  exact fun e => h (exEqL_eq x y e)
theorem ruEq_no {x y : List Ru} (h : x ≠ y) : ruEq x y = false := by
  rw [Bool.eq_false_iff]
  exact fun e => h (ruEq_eq x y e)
theorem take_eq {α : Type} {xs ys : List α} {k : Nat} {x y : α} (h : xs.take k = ys.take k) (hx : xs[k]? = some x) (hy : ys[k]? = some y) (he : x = y) : xs.take (k + 1) = ys.take (k + 1) := by
  obtain ⟨h1, e1⟩ := List.getElem?_eq_some_iff.1 hx
  obtain ⟨h2, e2⟩ := List.getElem?_eq_some_iff.1 hy
  rw [List.take_succ_eq_append_getElem h1, List.take_succ_eq_append_getElem h2, h, e1, e2, he]
theorem take_all {α : Type} {xs ys : List α} (h : xs.take xs.length = ys.take xs.length) (hl : xs.length = ys.length) : xs = ys := by
  rwa [List.take_length, hl, List.take_length] at h
theorem at_ne {α : Type} {xs ys : List α} {k : Nat} {x y : α} (hx : xs[k]? = some x) (hy : ys[k]? = some y) (h : x ≠ y) : xs ≠ ys := by
  rintro rfl
  exact h (Option.some.inj (hx.symm.trans hy))
theorem RdEx.four3 {w : World} {K : Nat → Prop} {x : Ex} {v0 v1 v2 v3 : Value} (h : RdEx w K x (.agg #[v0, v1, v2, v3])) : ∃ (op days : Int) (mile : ByteArray) (A : Option Addr) (n c : Nat), v0 = .int .i64 op ∧ v1 = .int .i64 days ∧ v2 = .string mile ∧ v3 = .slice A n c := by
  obtain ⟨op, days, mile, ks⟩ := x
  obtain ⟨A, c, vs, e, -⟩ := h.form
  injection e with e
  injection e with e
  simp only [List.cons.injEq, and_true] at e
  exact ⟨op, days, mile, A, ks.length, c, e⟩
/-- The contract of a comparing function. -/
def IHS (N : Nat) : Prop := ∀ (x y : Ex) (v v' : Value) (w : World), SizeOf.sizeOf x ≤ N → RdEx w (· < w.heap.size) x v → RdEx w (· < w.heap.size) y v' →
    Calls Tryd.prog 54 #[v, v'] w fun e w' => e = .returned (.bool (exEq x y)) ∧ Gr w w'
set_option maxRecDepth 100000 in
set_option maxHeartbeats 4000000 in
theorem eqf_any (N : Nat) (ih : IHS N) (ks ls : List Ex) (A A' : Option Addr) (c c' : Nat) (vs vs' : List Value) (w : World) (hN : ∀ (k : Nat) (x : Ex), ks[k]? = some x → SizeOf.sizeOf x ≤ N) (hc : ks.length ≤ c) (hcm : c ≤ maxLen) (hc' : ls.length ≤ c')
    (hr : Rk w (· < w.heap.size) 4 A ks.length vs) (hl : RdExL w (· < w.heap.size) ks vs) (hr' : Rk w (· < w.heap.size) 4 A' ls.length vs') (hl' : RdExL w (· < w.heap.size) ls vs') :
    Calls Tryd.prog 76 #[.slice A ks.length c, .slice A' ls.length c', .func (.func 54) #[] #[]] w fun e w' => e = .returned (.bool (exEqL ks ls)) ∧ Gr w w' := by
  have HIH := Lib.hid ih
  clear ih
  unfold maxLen at hcm
  by_cases hlen : ks.length = ls.length
  · have HL := Lib.hid hlen
    have h1 : (((ks.length : Nat) : Int) != ((ls.length : Nat) : Int)) = false := by simp [hlen]
    clear hlen
    generalize hE : exEqL ks ls = E
    have HE1 := Lib.hid (fun (h : ks = ls) => (by rw [← hE, h, exEqL_refl] : E = true))
    have HE0 := Lib.hid (fun (h : ks ≠ ls) => (by rw [← hE, exEqL_no h] : E = false))
    clear hE
    go_enter Tryd.func76, Tryd.ntmps76
    go_wp2
    all_goals (try (exfalso; have := HL.out; omega))
    go_loopw [17] (fun v17 wr => ∃ k : Nat, v17 = .int .i64 (k : Int) ∧ k ≤ ks.length ∧ ks.take k = ls.take k ∧ Gr w wr) (fun v17 _ => ks.length - (intOf v17).toNat)
    case atStart => exact ⟨0, rfl, Nat.zero_le _, by simp, Gr.refl _⟩
    case round =>
      obtain ⟨k, rfl, hk, hT, hgw⟩ := hrel
      by_cases hlt : k < ks.length
      · obtain ⟨x, hxk⟩ : ∃ x, ks[k]? = some x := ⟨_, List.getElem?_eq_getElem hlt⟩
        have hlt' : k < ls.length := by rw [← HL.out]; exact hlt
        obtain ⟨y, hyk⟩ : ∃ y, ls[k]? = some y := ⟨_, List.getElem?_eq_getElem hlt'⟩
        obtain ⟨ad, P, v0, v1, v2, v3, rfl, eP, hP, c0, c1, c2, c3, hsx⟩ := ex_cells (hr.gr hgw) (hl.gr hgw) rfl k x hxk
        obtain ⟨ad', P', u0, u1, u2, u3, rfl, eP', hP', d0, d1, d2, d3, hsy⟩ := ex_cells (hr'.gr hgw) (hl'.gr hgw) rfl k y hyk
        have cS := fun W hg => HIH.out x y _ _ W (hN k x hxk) (hsx.gr hg) (hsy.gr hg)
        obtain ⟨o1, y1, m1, A1, n1, a1, rfl, rfl, rfl, rfl⟩ := hsx.four3
        obtain ⟨o2, y2, m2, A2, n2, a2, rfl, rfl, rfl, rfl⟩ := hsy.four3
        have hG1 := Gr.trans (Gr.alloc wr (.cells #[.int .i64 o1, .int .i64 y1, .string m1, .slice A1 n1 a1] 48)) (Gr.alloc _ (.cells #[.int .i64 o2, .int .i64 y2, .string m2, .slice A2 n2 a2] 48))
        by_cases hxy : x = y
        · have HT := Lib.hid (take_eq hT hxk hyk hxy)
          have hb : exEq x y = true := by rw [hxy, exEq_refl]
          simp only [hb] at cS
          clear hT hxk hyk hxy hb hN
          go_wp2_with (go_at_call 54; (with_reducible refine (cS _ hG1).mono ?_); rintro e w1 ⟨rfl, hb1⟩)
          go_roundw
          case rel => exact ⟨k + 1, by go_num, by omega, HT.out, Gr.trans (Gr.trans hgw hG1) hb1⟩
          case measure => simp [intOf]; omega
        · have HN := Lib.hid (HE0.out (at_ne hxk hyk hxy))
          have hb : exEq x y = false := exEq_no hxy
          simp only [hb] at cS
          clear hT hxk hyk hxy hb hN
          go_wp2_with (go_at_call 54; (with_reducible refine (cS _ hG1).mono ?_); rintro e w1 ⟨rfl, hb1⟩)
          go_ret
          exact ⟨ret_bool HN.out.symm, Gr.trans (Gr.trans hgw hG1) hb1⟩
      · obtain rfl : k = ks.length := by omega
        have HN := Lib.hid (HE1.out (take_all hT HL.out))
        clear hT hN
        go_wp2
        go_ret
        exact ⟨ret_bool HN.out.symm, hgw⟩
  · have h1 : (((ks.length : Nat) : Int) != ((ls.length : Nat) : Int)) = true := by simp; omega
    rw [exEqL_no (fun e => hlen (by rw [e]))]
    clear hlen hN
    go_enter Tryd.func76, Tryd.ntmps76
    go_wp2
    go_ret
    exact ⟨rfl, Gr.refl _⟩
theorem exEq_mk {o d o' d' : Int} {m m' : ByteArray} {ks ls : List Ex} (ho : o = o') (hd : d = d') (hm : m = m') : exEq (.mk o d m ks) (.mk o' d' m' ls) = exEqL ks ls := by
  subst ho hd hm
  rw [exEq]; simp
set_option maxRecDepth 100000 in
set_option maxHeartbeats 4000000 in
theorem psame_n : ∀ N : Nat, IHS N
  | 0 => by
    intro x y v v' w hN _ _
    obtain ⟨op, days, mile, ks⟩ := x
    have : 0 < SizeOf.sizeOf (Ex.mk op days mile ks) := by rw [Ex.mk.sizeOf_spec]; omega
    omega
  | N + 1 => by
    intro x y v v' w hN hx hy
    have ih := psame_n N
    obtain ⟨op, days, mile, ks⟩ := x
    obtain ⟨op', days', mile', ls⟩ := y
    obtain ⟨A, c, vs, rfl, ⟨hc, hcm, hms⟩, hr, hl⟩ := hx.form
    obtain ⟨A', c', vs', rfl, ⟨hc', hcm', hms'⟩, hr', hl'⟩ := hy.form
    clear hx hy
    have hsz : ∀ (k : Nat) (x : Ex), ks[k]? = some x → SizeOf.sizeOf x ≤ N := by
      intro k x hx
      have h1 := List.sizeOf_lt_of_mem (List.mem_of_getElem? hx)
      have h2 : SizeOf.sizeOf (Ex.mk op days mile ks) = 1 + SizeOf.sizeOf op + SizeOf.sizeOf days + SizeOf.sizeOf mile + SizeOf.sizeOf ks := Ex.mk.sizeOf_spec op days mile ks
      omega
    have hG2 : ∀ o1 o2, Gr w ((w.alloc o1).alloc o2) := fun o1 o2 => Gr.trans (Gr.alloc _ _) (Gr.alloc _ _)
    have cE := fun W (hg : Gr w W) => eqf_any N ih ks ls A A' c c' vs vs' W hsz hc hcm hc' (hr.gr hg) (hl.gr hg) (hr'.gr hg) (hl'.gr hg)
    clear ih hsz hr hl hr' hl' hN
    by_cases ho : op = op'
    · by_cases hd : days = days'
      · by_cases hm : mile = mile'
        · rw [exEq_mk ho hd hm]
          subst ho hd hm
          generalize exEqL ks ls = E at *
          go_enter Tryd.func54, Tryd.ntmps54
          go_wp2_with (go_at_call 76; (with_reducible refine (cE _ (hG2 _ _)).mono ?_); rintro e w1 ⟨rfl, hb1⟩)
          go_ret
          exact ⟨rfl, Gr.trans (hG2 _ _) hb1⟩
        · rw [exEq_no (fun e => hm (by injection e))]
          obtain ⟨h1, h2⟩ := str_neq hm
          have h3 : ¬ mile.toList = mile'.toList := by simpa using h2
          subst ho hd
          clear hm cE
          go_enter Tryd.func54, Tryd.ntmps54
          go_wp2
          go_ret
          exact ⟨rfl, hG2 _ _⟩
      · rw [exEq_no (fun e => hd (by injection e))]
        have h1 : (days == days') = false := by simp [hd]
        have h2 : decide (days = days') = false := by simp [hd]
        subst ho
        clear hd cE
        go_enter Tryd.func54, Tryd.ntmps54
        go_wp2
        go_ret
        exact ⟨rfl, hG2 _ _⟩
    · rw [exEq_no (fun e => ho (by injection e))]
      have h1 : (op == op') = false := by simp [ho]
      have h2 : decide (op = op') = false := by simp [ho]
      clear ho cE
      go_enter Tryd.func54, Tryd.ntmps54
      go_wp2
      go_ret
      exact ⟨rfl, hG2 _ _⟩
/-- Are two rules the same? -/
def ru1 (r s : Ru) : Bool := decide (r.cls = s.cls) && decide (r.act = s.act) && exEq r.wh s.wh
theorem ru1_refl (r : Ru) : ru1 r r = true := by unfold ru1; rw [exEq_refl]; simp
theorem ru1_eq {r s : Ru} (h : ru1 r s = true) : r = s := by
  obtain ⟨c, w, a⟩ := r
  obtain ⟨c', w', a'⟩ := s
  unfold ru1 at h
  simp only [Bool.and_eq_true, decide_eq_true_eq] at h
  obtain ⟨⟨h1, h2⟩, h3⟩ := h
  rw [h1, h2, exEq_eq _ _ h3]
set_option maxRecDepth 100000 in
set_option maxHeartbeats 4000000 in
theorem psame1_any (c c' : ByteArray) (a a' : Int) (x y : Ex) (o1 y1 o2 y2 : Int) (m1 m2 : ByteArray) (A1 A2 : Option Addr) (n1 n2 a1 a2 : Nat) (w : World) (hx : RdEx w (· < w.heap.size) x (.agg #[.int .i64 o1, .int .i64 y1, .string m1, .slice A1 n1 a1])) (hy : RdEx w (· < w.heap.size) y (.agg #[.int .i64 o2, .int .i64 y2, .string m2, .slice A2 n2 a2])) :
    Calls Tryd.prog 53 #[.agg #[.string c, .int .i64 o1, .int .i64 y1, .string m1, .slice A1 n1 a1, .int .i64 a], .agg #[.string c', .int .i64 o2, .int .i64 y2, .string m2, .slice A2 n2 a2, .int .i64 a']] w fun e w' => e = .returned (.bool (ru1 ⟨c, x, a⟩ ⟨c', y, a'⟩)) ∧ Gr w w' := by
  have hG := Gr.trans (Gr.alloc w (.cells #[.string c, .int .i64 o1, .int .i64 y1, .string m1, .slice A1 n1 a1, .int .i64 a] 50)) (Gr.alloc _ (.cells #[.string c', .int .i64 o2, .int .i64 y2, .string m2, .slice A2 n2 a2, .int .i64 a'] 50))
  have cS := fun W (hg : Gr w W) => psame_n _ x y _ _ W (Nat.le_refl _) (hx.gr hg) (hy.gr hg)
  clear hx hy
  unfold ru1
  by_cases hc : c = c'
  · subst hc
    by_cases ha : a = a'
    · subst ha
      rw [decide_eq_true rfl, decide_eq_true rfl, Bool.true_and, Bool.true_and]
      dsimp only
      generalize exEq x y = E at *
      go_enter Tryd.func53, Tryd.ntmps53
      go_wp2_with (go_at_call 54; (with_reducible refine (cS _ hG).mono ?_); rintro e w1 ⟨rfl, hb1⟩)
      go_ret
      exact ⟨rfl, Gr.trans hG hb1⟩
    · rw [decide_eq_true rfl, decide_eq_false ha, Bool.true_and, Bool.false_and]
      have h1 : (a == a') = false := by simp [ha]
      have h2 : decide (a = a') = false := by simp [ha]
      clear ha cS
      go_enter Tryd.func53, Tryd.ntmps53
      go_wp2
      go_ret
      exact ⟨rfl, hG⟩
  · rw [decide_eq_false hc, Bool.false_and, Bool.false_and]
    obtain ⟨h1, h2⟩ := str_neq hc
    have h3 : ¬ c.toList = c'.toList := by simpa using h2
    clear hc cS
    go_enter Tryd.func53, Tryd.ntmps53
    go_wp2
    go_ret
    exact ⟨rfl, hG⟩
set_option maxRecDepth 100000 in
set_option maxHeartbeats 4000000 in
theorem eqr_any (rs ss : List Ru) (v v' : Value) (w : World) (h : RdRus w (· < w.heap.size) v rs) (h' : RdRus w (· < w.heap.size) v' ss) :
    Calls Tryd.prog 52 #[v, v', .func (.func 53) #[] #[]] w fun e w' => e = .returned (.bool (ruEq rs ss)) ∧ Gr w w' := by
  obtain ⟨A, c, rfl, hc, hcm⟩ := h.form
  obtain ⟨A', c', rfl, hc', hcm'⟩ := h'.form
  unfold maxLen at hcm
  by_cases hlen : rs.length = ss.length
  · have HL := Lib.hid hlen
    have h1 : (((rs.length : Nat) : Int) != ((ss.length : Nat) : Int)) = false := by simp [hlen]
    clear hlen
    generalize hE : ruEq rs ss = E
    have HE1 := Lib.hid (fun (h : rs = ss) => (by rw [← hE, h, ruEq_refl] : E = true))
    have HE0 := Lib.hid (fun (h : rs ≠ ss) => (by rw [← hE, ruEq_no h] : E = false))
    clear hE
    go_enter Tryd.func52, Tryd.ntmps52
    go_wp2
    all_goals (try (exfalso; have := HL.out; omega))
    go_loopw [17] (fun v17 wr => ∃ k : Nat, v17 = .int .i64 (k : Int) ∧ k ≤ rs.length ∧ rs.take k = ss.take k ∧ Gr w wr) (fun v17 _ => rs.length - (intOf v17).toNat)
    case atStart => exact ⟨0, rfl, Nat.zero_le _, by simp, Gr.refl _⟩
    case round =>
      obtain ⟨k, rfl, hk, hT, hgw⟩ := hrel
      by_cases hlt : k < rs.length
      · obtain ⟨x, hxk⟩ : ∃ x, rs[k]? = some x := ⟨_, List.getElem?_eq_getElem hlt⟩
        have hlt' : k < ss.length := by rw [← HL.out]; exact hlt
        obtain ⟨y, hyk⟩ : ∃ y, ss[k]? = some y := ⟨_, List.getElem?_eq_getElem hlt'⟩
        obtain ⟨ad, P, v0, v1, v2, v3, rfl, eP, hP, c0, c1, c2, c3, c4, c5, hs, hsx⟩ := (h.gr hgw).at_ k _ hxk
        obtain ⟨ad', P', u0, u1, u2, u3, rfl, eP', hP', d0, d1, d2, d3, d4, d5, hs', hsy⟩ := (h'.gr hgw).at_ k _ hyk
        obtain ⟨o1, y1, m1, A1, n1, a1, rfl, rfl, rfl, rfl⟩ := hsx.four3
        obtain ⟨o2, y2, m2, A2, n2, a2, rfl, rfl, rfl, rfl⟩ := hsy.four3
        have cS := fun W hg => psame1_any x.cls y.cls x.act y.act x.wh y.wh o1 y1 o2 y2 m1 m2 A1 A2 n1 n2 a1 a2 W (hsx.gr hg) (hsy.gr hg)
        have hG1 := Gr.trans (Gr.alloc wr (.cells #[.string x.cls, .int .i64 o1, .int .i64 y1, .string m1, .slice A1 n1 a1, .int .i64 x.act] 50)) (Gr.alloc _ (.cells #[.string y.cls, .int .i64 o2, .int .i64 y2, .string m2, .slice A2 n2 a2, .int .i64 y.act] 50))
        have hru : ∀ b, ru1 ⟨x.cls, x.wh, x.act⟩ ⟨y.cls, y.wh, y.act⟩ = b → ru1 x y = b := fun b h => h
        have hru0 : ru1 ⟨x.cls, x.wh, x.act⟩ ⟨y.cls, y.wh, y.act⟩ = ru1 x y := rfl
        rw [hru0] at cS
        clear hru hru0 hsx hsy hs hs'
        cases hxy : ru1 x y with
        | true =>
          have HT := Lib.hid (take_eq hT hxk hyk (ru1_eq hxy))
          simp only [hxy] at cS
          clear hT hxk hyk hxy
          obtain ⟨cl, wx, ac⟩ := x
          obtain ⟨cl', wx', ac'⟩ := y
          dsimp only at *
          go_wp2_with (go_at_call 53; (with_reducible refine (cS _ hG1).mono ?_); rintro e w1 ⟨rfl, hb1⟩)
          go_roundw
          case rel => exact ⟨k + 1, by go_num, by omega, HT.out, Gr.trans (Gr.trans hgw hG1) hb1⟩
          case measure => simp [intOf]; omega
        | false =>
          have hne : x ≠ y := fun e => by rw [e, ru1_refl] at hxy; cases hxy
          have HN := Lib.hid (HE0.out (at_ne hxk hyk hne))
          simp only [hxy] at cS
          clear hT hxk hyk hxy hne
          obtain ⟨cl, wx, ac⟩ := x
          obtain ⟨cl', wx', ac'⟩ := y
          dsimp only at *
          go_wp2_with (go_at_call 53; (with_reducible refine (cS _ hG1).mono ?_); rintro e w1 ⟨rfl, hb1⟩)
          go_ret
          exact ⟨ret_bool HN.out.symm, Gr.trans (Gr.trans hgw hG1) hb1⟩
      · obtain rfl : k = rs.length := by omega
        have HN := Lib.hid (HE1.out (take_all hT HL.out))
        clear hT
        go_wp2
        go_ret
        exact ⟨ret_bool HN.out.symm, hgw⟩
  · have h1 : (((rs.length : Nat) : Int) != ((ss.length : Nat) : Int)) = true := by simp; omega
    rw [ruEq_no (fun e => hlen (by rw [e]))]
    clear hlen
    go_enter Tryd.func52, Tryd.ntmps52
    go_wp2
    go_ret
    exact ⟨rfl, Gr.refl _⟩
theorem psame_any (rs ss : List Ru) (v v' : Value) (w : World) (h : RdRus w (· < w.heap.size) v rs) (h' : RdRus w (· < w.heap.size) v' ss) :
    Calls Tryd.prog 27 #[v, v'] w fun e w' => e = .returned (.bool (ruEq rs ss)) ∧ Gr w w' := by
  have cE := eqr_any rs ss v v' w h h'
  obtain ⟨A, c, rfl, hc, hcm⟩ := h.form
  obtain ⟨A', c', rfl, hc', hcm'⟩ := h'.form
  generalize ruEq rs ss = E at *
  clear h h'
  go_enter Tryd.func27, Tryd.ntmps27
  go_wp2_with (go_at_call 52; (with_reducible refine cE.mono ?_); rintro e w1 ⟨rfl, hb1⟩)
  go_ret
  exact ⟨rfl, hb1⟩
end Go.Proofs.YtogpmihepfnoaaaDoor
