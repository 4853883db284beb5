/- The law RuleExpr: its walk. -/
import Derived.Test.YtogpmihepfnoaaaDoorRuF
import Derived.Test.YtogpmihepfnoaaaDoorRuJ
namespace Go.Proofs.YtogpmihepfnoaaaDoor
open Go Go.RowKit Go.Sort Go.Deep Go.ChangeShapes Go.WideShapes

/-- A condition's text, as the program tells it. -/
def exprD (x : Ex) : ByteArray × Int := if (mayX x 24 8).isSome then (ba (exprL x), 0) else (⟨#[]⟩, 1)
set_option maxRecDepth 100000 in
theorem pexpr_any (x : Ex) (v : Value) (w : World) (hP : Pow w) (hx : RdEx w (· < w.heap.size) x v) : Calls Tryd.prog 24 #[v] w fun e w' => e = .returned (.tuple #[.string (exprD x).1, .int .i64 (exprD x).2]) ∧ Gr w w' := by
  have HP := Lib.hid hP
  have cM := fun W (hg : Gr w W) => pmay_any x v W (hx.gr hg)
  have cW := fun m (hm : mayX x 24 8 = some m) W (hg : Gr w W) => pwritten_n _ x v W 24 8 m (Nat.le_refl _) (hx.gr hg) (HP.out.below hg) (by omega) hm
  clear hP
  have hfo : ∃ (o d : Int) (m : ByteArray) (A : Option Addr) (n c : Nat), v = .agg #[.int .i64 o, .int .i64 d, .string m, .slice A n c] := by
    obtain ⟨op, days, mile, ks⟩ := x
    obtain ⟨A, c, vs, rfl, _⟩ := hx.form
    exact ⟨_, _, _, _, _, _, rfl⟩
  obtain ⟨o, d, m, A, n, c, rfl⟩ := hfo
  cases hm : mayX x 24 8 with
  | none =>
    rw [show exprD x = (⟨#[]⟩, 1) by simp [exprD, hm]]
    simp only [hm, Option.isSome_none] at cM
    clear cW hx hm
    go_enter Tryd.func24, Tryd.ntmps24
    go_wp2_with (go_at_call 47; (with_reducible refine (cM _ (Gr.alloc _ _)).mono ?_); rintro e w1 ⟨rfl, hb1⟩)
    exact bodyPost_ret (v := .tuple #[.string ⟨#[]⟩, .int .i64 1]) (by simp [results, Tryd.results24, go_sem]) rfl ⟨rfl, Gr.trans (Gr.alloc _ _) hb1⟩
  | some q =>
    rw [show exprD x = (ba (exprL x), 0) by simp [exprD, hm]]
    have cW1 := cW q hm
    simp only [hm, Option.isSome_some] at cM
    generalize exprL x = E at *
    generalize ba E = EE at *
    clear cW hx hm
    have hB := Blk.new w 48 #[.int .i64 o, .int .i64 d, .string m, .slice A n c]
    go_enter Tryd.func24, Tryd.ntmps24
    go_wp2_with (first
      | (go_at_call 47; (with_reducible refine (cM _ (Gr.alloc _ _)).mono ?_); rintro e w1 ⟨rfl, hb1⟩
         obtain ⟨z0, z1, z2, z3⟩ := four_ex (hB.below hb1 hB.lt)
         have hG1 := Gr.trans (Gr.alloc w _) hb1)
      | (go_at_call 41; (with_reducible refine (cW1 _ hG1).mono ?_); rintro e w2 ⟨rfl, hb2⟩))
    exact bodyPost_ret (v := .tuple #[.string EE, .int .i64 0]) (by simp [results, Tryd.results24, go_sem]) rfl ⟨rfl, Gr.trans hG1 hb2⟩
abbrev reW1 (w : World) (o d : Int) (m : ByteArray) (A : Option Addr) (n c : Nat) : World := w.alloc (.cells #[.int .i64 o, .int .i64 d, .string m, .slice A n c] 48)
abbrev reW2 (w : World) (o d : Int) (m : ByteArray) (A : Option Addr) (n c : Nat) : World := (reW1 w o d m A n c).alloc (.cells #[.string ⟨#[]⟩, .int .i64 o, .int .i64 d, .string m, .slice A n c, .int .i64 0] 50)
theorem box_rd (x : Ex) (o d : Int) (m : ByteArray) (A : Option Addr) (n c : Nat) (w : World) (hx : RdEx w (· < w.heap.size) x (.agg #[.int .i64 o, .int .i64 d, .string m, .slice A n c])) :
    RdRus (reW2 w o d m A n c) (· < (reW2 w o d m A n c).heap.size) (.slice (some ⟨w.heap.size + 1, 0, none⟩) 1 1) [⟨⟨#[]⟩, x, 0⟩] ∧ Blk (reW2 w o d m A n c) w.heap.size 48 #[.int .i64 o, .int .i64 d, .string m, .slice A n c] ∧ Gr w (reW2 w o d m A n c) := by
  have hG : Gr w (reW2 w o d m A n c) := Gr.trans (Gr.alloc _ _) (Gr.alloc _ _)
  have b2 : Blk (reW2 w o d m A n c) (w.heap.size + 1) 50 #[.string ⟨#[]⟩, .int .i64 o, .int .i64 d, .string m, .slice A n c, .int .i64 0] := by
    have h := Blk.new (reW1 w o d m A n c) 50 #[.string ⟨#[]⟩, .int .i64 o, .int .i64 d, .string m, .slice A n c, .int .i64 0]
    rwa [show (reW1 w o d m A n c).heap.size = w.heap.size + 1 by simp] at h
  exact ⟨rd_rule1 (by decide) b2 b2.lt (hx.gr hG), (Blk.new _ _ _).alloc _, hG⟩
theorem pair_rd (x : Ex) (cl : ByteArray) (ac : Int) (v0 v1 v2 v3 u0 u1 u2 u3 : Value) (W : World) (o : Obj) (hc : cl.size ≤ 140737488351232) (h : RdEx W (· < W.heap.size) x (.agg #[v0, v1, v2, v3])) (h' : RdEx W (· < W.heap.size) x (.agg #[u0, u1, u2, u3])) :
    Calls Tryd.prog 23 #[.slice (some ⟨W.heap.size + 1, 0, none⟩) 1 1, .slice (some ⟨W.heap.size + 1 + 1, 0, none⟩) 1 1] (((W.alloc o).alloc (.cells #[.string cl, v0, v1, v2, v3, .int .i64 ac] 50)).alloc (.cells #[.string cl, u0, u1, u2, u3, .int .i64 ac] 50))
      fun e w' => e = .returned (.bool true) ∧ Gr W w' := by
  have hG : Gr W (((W.alloc o).alloc (.cells #[.string cl, v0, v1, v2, v3, .int .i64 ac] 50)).alloc (.cells #[.string cl, u0, u1, u2, u3, .int .i64 ac] 50)) := Gr.trans (Gr.trans (Gr.alloc _ _) (Gr.alloc _ _)) (Gr.alloc _ _)
  have b1 : Blk (((W.alloc o).alloc (.cells #[.string cl, v0, v1, v2, v3, .int .i64 ac] 50)).alloc (.cells #[.string cl, u0, u1, u2, u3, .int .i64 ac] 50)) (W.heap.size + 1) 50 #[.string cl, v0, v1, v2, v3, .int .i64 ac] := by
    have h := (Blk.new (W.alloc o) 50 #[.string cl, v0, v1, v2, v3, .int .i64 ac]).alloc (.cells #[.string cl, u0, u1, u2, u3, .int .i64 ac] 50)
    rwa [show (W.alloc o).heap.size = W.heap.size + 1 by simp] at h
  have b2 : Blk (((W.alloc o).alloc (.cells #[.string cl, v0, v1, v2, v3, .int .i64 ac] 50)).alloc (.cells #[.string cl, u0, u1, u2, u3, .int .i64 ac] 50)) (W.heap.size + 1 + 1) 50 #[.string cl, u0, u1, u2, u3, .int .i64 ac] := by
    have h := Blk.new ((W.alloc o).alloc (.cells #[.string cl, v0, v1, v2, v3, .int .i64 ac] 50)) 50 #[.string cl, u0, u1, u2, u3, .int .i64 ac]
    rwa [show ((W.alloc o).alloc (.cells #[.string cl, v0, v1, v2, v3, .int .i64 ac] 50)).heap.size = W.heap.size + 1 + 1 by simp] at h
  refine (rsame_any [⟨cl, x, ac⟩] [⟨cl, x, ac⟩] _ _ _ (rd_rule1 hc b1 b1.lt (h.gr hG)) (rd_rule1 hc b2 b2.lt (h'.gr hG))).mono ?_
  rintro e w' ⟨he, hg⟩
  rw [ruEq_refl] at he
  exact ⟨he, Gr.trans hG hg⟩
set_option maxRecDepth 100000 in
set_option maxHeartbeats 8000000 in
theorem law_ruleexpr (x : Ex) (rs ss : List Ru) (o d : Int) (m : ByteArray) (A : Option Addr) (n c : Nat) (v v' : Value) (w : World) (hP : Pow w) (hx : RdEx w (· < w.heap.size) x (.agg #[.int .i64 o, .int .i64 d, .string m, .slice A n c])) (h : RdRus w (· < w.heap.size) v rs) (h' : RdRus w (· < w.heap.size) v' ss) :
    Calls Tryd.prog 8 #[.agg #[.int .i64 o, .int .i64 d, .string m, .slice A n c], v, v'] w fun e w' => e = .returned (.bool true) ∧ Gr w w' := by
  have HP := Lib.hid hP
  obtain ⟨hr1, hB, hG0⟩ := box_rd x o d m A n c w hx
  have cS1 := rsmall_any _ _ _ hr1
  have cSa := fun W hg => rsmall_any rs v W (h.gr hg)
  have cSb := fun W hg => rsmall_any ss v' W (h'.gr hg)
  have cE := fun W hg => pexpr_any x _ W (HP.out.below hg) (hx.gr hg)
  have cM := fun W hg => rmay_any x _ W (hx.gr hg)
  have cX := fun q (hm : mayX x 24 8 = some q) W hg => rexpr_n _ x _ W 24 8 q (Nat.le_refl _) (hx.gr hg) (by omega) hm
  have cN := fun W hg => psame_any rs ss v v' W (h.gr hg) (h'.gr hg)
  have cN2 := fun W hg => psame_any rs rs v v W (h.gr hg) (h.gr hg)
  have cR := fun W hg => rsame_any rs ss v v' W (h.gr hg) (h'.gr hg)
  have cF := fun W hg => pfind_any rs v m W (h.gr hg)
  have cG := fun W hg => rfind_any rs v m W (h.gr hg)
  rw [ruEq_refl] at cN2
  generalize ruEq rs ss = B at *
  generalize findD rs m = D at *
  obtain ⟨⟨cl, wx, ac⟩, bf⟩ := D
  clear hP hr1
  cases hm : mayX x 24 8 with
  | none =>
    rw [show exprD x = (⟨#[]⟩, 1) by simp [exprD, hm]] at cE
    simp only [hm, Option.isSome_none] at cM
    clear cX hx hm
    go_enter Tryd.func8, Tryd.ntmps8
    go_wp2_with (first
      | (go_at_call 16; (with_reducible refine cS1.mono ?_); rintro e w1 ⟨⟨s1, rfl⟩, hb1⟩
         have hG1 := Gr.trans hG0 hb1
         cases s1)
      | (go_at_call 16; (with_reducible refine (cSa _ hG1).mono ?_); rintro e w2 ⟨⟨s2, rfl⟩, hb2⟩
         have hG2 := Gr.trans hG1 hb2
         cases s2)
      | (go_at_call 16; (with_reducible refine (cSb _ hG2).mono ?_); rintro e w3 ⟨⟨s3, rfl⟩, hb3⟩
         have hG3 := Gr.trans hG2 hb3
         have hB3 := hB.below (Gr.trans (Gr.trans hb1 hb2) hb3) hB.lt
         obtain ⟨z0, z1, z2, z3⟩ := four_ex hB3
         cases s3)
      | (go_at_call 24; (with_reducible refine (cE _ hG3).mono ?_); rintro e w4 ⟨rfl, hb4⟩
         have hG4 := Gr.trans hG3 hb4
         have hB4 := hB3.below hb4 hB3.lt
         obtain ⟨y0, y1, y2, y3⟩ := four_ex hB4)
      | (go_at_call 25; (with_reducible refine (cM _ hG4).mono ?_); rintro e w5 ⟨rfl, hb5⟩
         have hG5 := Gr.trans hG4 hb5
         have hB5 := hB4.below hb5 hB4.lt
         obtain ⟨x0, x1, x2, x3⟩ := four_ex hB5)
      
      | (go_at_call 20; (with_reducible refine (rnum_any _ _).mono ?_); rintro e w7 ⟨rfl, rfl⟩)
      | (go_at_call 27; (with_reducible refine (cN _ hG5).mono ?_); rintro e w8 ⟨rfl, hb8⟩
         have hG8 := Gr.trans hG5 hb8)
      | (go_at_call 23; (with_reducible refine (cR _ hG8).mono ?_); rintro e w9 ⟨rfl, hb9⟩
         have hG9 := Gr.trans hG8 hb9)
      | (go_at_call 27; (with_reducible refine (cN2 _ hG9).mono ?_); rintro e w10 ⟨rfl, hb10⟩
         have hG10 := Gr.trans hG9 hb10
         have hB10 := hB5.below (Gr.trans (Gr.trans hb8 hb9) hb10) hB5.lt
         obtain ⟨k0, k1, k2, k3⟩ := four_ex hB10)
      | (go_at_call 28; (with_reducible refine (cF _ hG10).mono ?_); rintro e w12 ⟨o1, d1, m1, A1, n1, a1, rfl, q1, rd1, hb12⟩
         dsimp only at q1 rd1
         have hG12 := Gr.trans hG10 hb12
         have hGA := Gr.alloc w12 (.cells #[.string cl, .int .i64 o1, .int .i64 d1, .string m1, .slice A1 n1 a1, .int .i64 ac] 50)
         have hBP := Blk.new w12 50 #[.string cl, .int .i64 o1, .int .i64 d1, .string m1, .slice A1 n1 a1, .int .i64 ac])
      | (go_at_call 29; (with_reducible refine (cG _ (Gr.trans hG12 hGA)).mono ?_); rintro e w13 ⟨o2, d2, m2, A2, n2, a2, rfl, q2, rd2, hb13⟩
         dsimp only at q2 rd2
         have hG13 := Gr.trans (Gr.trans hG12 hGA) hb13
         obtain ⟨p0, p1, p2, p3, p4, p5⟩ := six_cells ((hBP.below hb13 hBP.lt).alloc (.cells #[.string cl, .int .i64 o2, .int .i64 d2, .string m2, .slice A2 n2 a2, .int .i64 ac] 50)))
      | (go_at_call 23; (with_reducible refine (pair_rd wx cl ac _ _ _ _ _ _ _ _ w13 _ q1 (rd1.gr (Gr.trans hGA hb13)) rd2).mono ?_); rintro e w14 ⟨rfl, hb14⟩
         have hG14 := Gr.trans hG13 hb14)
      | (go_at_call 17; (with_reducible refine (rulive_any _ (HP.out.below (by first | exact hG14 | exact hG3 | exact hG2 | exact hG1))).mono ?_); rintro e w11 ⟨rfl, hb11⟩))
    all_goals
      go_ret
      first | exact ⟨rfl, Gr.trans hG14 hb11⟩ | exact ⟨rfl, Gr.trans hG3 hb11⟩ | exact ⟨rfl, Gr.trans hG2 hb11⟩ | exact ⟨rfl, Gr.trans hG1 hb11⟩
  | some q =>
    rw [show exprD x = (ba (exprL x), 0) by simp [exprD, hm]] at cE
    have cX1 := cX q hm
    simp only [hm, Option.isSome_some] at cM
    dsimp only at cE
    generalize exprL x = E at *
    generalize ba E = EE at *
    clear cX hx hm
    go_enter Tryd.func8, Tryd.ntmps8
    go_wp2_with (first
      | (go_at_call 16; (with_reducible refine cS1.mono ?_); rintro e w1 ⟨⟨s1, rfl⟩, hb1⟩
         have hG1 := Gr.trans hG0 hb1
         cases s1)
      | (go_at_call 16; (with_reducible refine (cSa _ hG1).mono ?_); rintro e w2 ⟨⟨s2, rfl⟩, hb2⟩
         have hG2 := Gr.trans hG1 hb2
         cases s2)
      | (go_at_call 16; (with_reducible refine (cSb _ hG2).mono ?_); rintro e w3 ⟨⟨s3, rfl⟩, hb3⟩
         have hG3 := Gr.trans hG2 hb3
         have hB3 := hB.below (Gr.trans (Gr.trans hb1 hb2) hb3) hB.lt
         obtain ⟨z0, z1, z2, z3⟩ := four_ex hB3
         cases s3)
      | (go_at_call 24; (with_reducible refine (cE _ hG3).mono ?_); rintro e w4 ⟨rfl, hb4⟩
         have hG4 := Gr.trans hG3 hb4
         have hB4 := hB3.below hb4 hB3.lt
         obtain ⟨y0, y1, y2, y3⟩ := four_ex hB4)
      | (go_at_call 25; (with_reducible refine (cM _ hG4).mono ?_); rintro e w5 ⟨rfl, hb5⟩
         have hG5 := Gr.trans hG4 hb5
         have hB5 := hB4.below hb5 hB4.lt
         obtain ⟨x0, x1, x2, x3⟩ := four_ex hB5)
      | (go_at_call 26; (with_reducible refine (cX1 _ hG5).mono ?_); rintro e w6 ⟨rfl, hb6⟩
         have hG6 := Gr.trans hG5 hb6
         have hB6 := hB5.below hb6 hB5.lt)
      
      | (go_at_call 20; (with_reducible refine (rnum_any _ _).mono ?_); rintro e w7 ⟨rfl, rfl⟩)
      | (go_at_call 27; (with_reducible refine (cN _ hG6).mono ?_); rintro e w8 ⟨rfl, hb8⟩
         have hG8 := Gr.trans hG6 hb8)
      | (go_at_call 23; (with_reducible refine (cR _ hG8).mono ?_); rintro e w9 ⟨rfl, hb9⟩
         have hG9 := Gr.trans hG8 hb9)
      | (go_at_call 27; (with_reducible refine (cN2 _ hG9).mono ?_); rintro e w10 ⟨rfl, hb10⟩
         have hG10 := Gr.trans hG9 hb10
         have hB10 := hB6.below (Gr.trans (Gr.trans hb8 hb9) hb10) hB6.lt
         obtain ⟨k0, k1, k2, k3⟩ := four_ex hB10)
      | (go_at_call 28; (with_reducible refine (cF _ hG10).mono ?_); rintro e w12 ⟨o1, d1, m1, A1, n1, a1, rfl, q1, rd1, hb12⟩
         dsimp only at q1 rd1
         have hG12 := Gr.trans hG10 hb12
         have hGA := Gr.alloc w12 (.cells #[.string cl, .int .i64 o1, .int .i64 d1, .string m1, .slice A1 n1 a1, .int .i64 ac] 50)
         have hBP := Blk.new w12 50 #[.string cl, .int .i64 o1, .int .i64 d1, .string m1, .slice A1 n1 a1, .int .i64 ac])
      | (go_at_call 29; (with_reducible refine (cG _ (Gr.trans hG12 hGA)).mono ?_); rintro e w13 ⟨o2, d2, m2, A2, n2, a2, rfl, q2, rd2, hb13⟩
         dsimp only at q2 rd2
         have hG13 := Gr.trans (Gr.trans hG12 hGA) hb13
         obtain ⟨p0, p1, p2, p3, p4, p5⟩ := six_cells ((hBP.below hb13 hBP.lt).alloc (.cells #[.string cl, .int .i64 o2, .int .i64 d2, .string m2, .slice A2 n2 a2, .int .i64 ac] 50)))
      | (go_at_call 23; (with_reducible refine (pair_rd wx cl ac _ _ _ _ _ _ _ _ w13 _ q1 (rd1.gr (Gr.trans hGA hb13)) rd2).mono ?_); rintro e w14 ⟨rfl, hb14⟩
         have hG14 := Gr.trans hG13 hb14)
      | (go_at_call 17; (with_reducible refine (rulive_any _ (HP.out.below (by first | exact hG14 | exact hG3 | exact hG2 | exact hG1))).mono ?_); rintro e w11 ⟨rfl, hb11⟩))
    all_goals
      go_ret
      first | exact ⟨rfl, Gr.trans hG14 hb11⟩ | exact ⟨rfl, Gr.trans hG3 hb11⟩ | exact ⟨rfl, Gr.trans hG2 hb11⟩ | exact ⟨rfl, Gr.trans hG1 hb11⟩
set_option maxRecDepth 100000 in
theorem ex_of_Trod {H : Type} {enc : TypeId × Value → H} {w : World} {spare : Nat → Bool} {held : Bool} {r : Reach} {b0 : Nat} {v : Value} {d : DataW H} {p : List MemPlace} (hv : Value.okWide Tryd.prog w r b0 48 v) (h : DataW.Trod enc Tryd.prog w 0 spare held 48 v d p) (hw : ∀ n ∈ d.weights Tryd.prog 48, n ≤ 140737488351232) :
    ∃ (x : Ex) (o y : Int) (m : ByteArray) (A : Option Addr) (n c : Nat), v = .agg #[.int .i64 o, .int .i64 y, .string m, .slice A n c] ∧ RdEx w (· < w.heap.size) x (.agg #[.int .i64 o, .int .i64 y, .string m, .slice A n c]) := by
  obtain ⟨cs, rfl, hsz⟩ := okWide_struct Tryd.underlying48 hv
  obtain ⟨fuel, hf⟩ := h
  obtain ⟨x, v0, v1, v2, v3, hcs, hr⟩ := ex_of_trod fuel fuel _ _ (Nat.le_refl _) hf hw
  obtain rfl : cs = #[v0, v1, v2, v3] := by simpa [Value.cells] using congrArg List.toArray hcs
  obtain ⟨op, days, mile, ks⟩ := x
  obtain ⟨A, c, vs, he, _⟩ := hr.form
  rw [he] at hr ⊢
  exact ⟨_, _, _, _, _, _, _, rfl, hr⟩
theorem row_ruleexpr (x : Ex) (o d : Int) (m : ByteArray) (A : Option Addr) (n c : Nat) (rs : List Ru) (v : Value) (ss : List Ru) (v' : Value) (w : World) (hx : RdEx w (· < w.heap.size) x (.agg #[.int .i64 o, .int .i64 d, .string m, .slice A n c])) (h : RdRus w (· < w.heap.size) v rs) (h' : RdRus w (· < w.heap.size) v' ss) (hP : Pow w) :
    Calls Tryd.prog 8 #[.agg #[.int .i64 o, .int .i64 d, .string m, .slice A n c], v, v'] w fun e w' => e = .returned (.bool true) ∧ Below w.heap.size w w' :=
  law_ruleexpr x rs ss o d m A n c v v' w hP hx h h'
end Go.Proofs.YtogpmihepfnoaaaDoor
