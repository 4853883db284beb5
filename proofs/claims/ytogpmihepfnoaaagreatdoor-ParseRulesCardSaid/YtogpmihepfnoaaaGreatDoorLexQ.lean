/- A schedule's words: the token that a text begins with. -/
import Derived.Test.YtogpmihepfnoaaaGreatDoorLexO
namespace Go.Proofs.YtogpmihepfnoaaaGreatDoor
open Go Go.RowKit

set_option maxRecDepth 100000 in
set_option maxHeartbeats 2000000 in
theorem one_any (c : UInt8) (r : List UInt8) (w : World) (hP : Pow w) (hE : Errs w) (hl : r.length ≤ 10000) : Calls Tryz.prog 34 #[.string (ba (c :: r))] w fun e w' =>
    e = .returned (.tuple #[.agg (tkC (lexOne (c :: r)).1.kind (lexOne (c :: r)).1.text (lexOne (c :: r)).1.n 0), .int .i64 (lexOne (c :: r)).2.1, .int .i64 (lexOne (c :: r)).2.2]) ∧ Gr w w' := by
  have HP := Lib.hid hP
  have HE := Lib.hid hE
  clear hP hE
  have hsz : (ba (c :: r)).size = r.length + 1 := by rw [ba_size, List.length_cons]
  have hg0 := ba_get (c :: r) 0 (by rw [hsz]; omega)
  rw [List.getD_cons_zero] at hg0
  have hB := Blk.new w 73 (tkC 0 ⟨#[]⟩ 0 0)
  have hx1 : (ba (c :: r)).extract 0 1 = ba [c] := by rw [ba_ext_]; rfl
  have c1 := fun W => small_any c W
  have c2 := fun W => digit_any c W
  have cS := fun (hd : digB c = true) W (hg : Gr w W) => spanned_any c r W (HP.out.below hg) (HE.out.gr hg) hd hl
  have cR := fun W => run_word (ba (c :: r)) W (by rw [hsz]; omega)
  rw [ba_list_] at cR
  have hx2 : (ba (c :: r)).extract 0 (runL wordB (c :: r)) = ba ((c :: r).take (runL wordB (c :: r))) := by rw [ba_ext_]; rfl
  have hle := runL_le wordB (c :: r)
  rw [List.length_cons] at hle
  rcases lex_ways c with h1 | h1 | h1 | h1 | h1 | h1 | ⟨h1, h2, h3, h4, h5, h6⟩
  · rw [lexOne_40 h1]
    have hi : (c.toNat : Int) = 40 := by omega
    clear h1 c1 c2 cS cR hx2 hle
    generalize hm : (c.toNat : Int) = m at *
    subst hi
    · go_enter Tryz.func34, Tryz.ntmps34
      go_wp2_with (first
        | (go_at_call 50; (with_reducible refine (c1 _).mono ?_); rintro e w1 ⟨rfl, rfl⟩)
        | (go_at_call 53; (with_reducible refine (c2 _).mono ?_); rintro e w2 ⟨rfl, rfl⟩)
        | (go_at_call 32; (with_reducible refine (cR _).mono ?_); rintro e w3 ⟨rfl, rfl⟩)
        | (go_at_call 52; (with_reducible refine (cQ _).mono ?_); rintro e w4 ⟨rfl, hb4⟩
           have hB4 := hB.below hb4 hB.lt
           obtain ⟨e0, e1, e2, e3, f0, f1, f2, f3⟩ := tk_cells hB4)
        | (go_at_call 54; (with_reducible refine (cS _ (Gr.alloc _ _)).mono ?_); rintro e w4 ⟨rfl, hb4⟩
           have hB4 := hB.below hb4 hB.lt
           obtain ⟨e0, e1, e2, e3, f0, f1, f2, f3⟩ := tk_cells hB4))
      obtain ⟨z0, z1, z2, z3, -⟩ := tk_cells (hB.tk4 (y0 := .int .i64 4) (y1 := .string (ba [c])) (y2 := .int .i64 0) (y3 := .int .i64 0))
      exact bodyPost_ret (v := .tuple #[.agg (tkC 4 (ba [c]) 0 0), .int .i64 1, .int .i64 0]) (by simp [results, Tryz.results34, go_sem]) rfl ⟨rfl, Gr.alloc _ _⟩
  · rw [lexOne_41 h1]
    have hi : (c.toNat : Int) = 41 := by omega
    clear h1 c1 c2 cS cR hx2 hle
    generalize hm : (c.toNat : Int) = m at *
    subst hi
    · go_enter Tryz.func34, Tryz.ntmps34
      go_wp2_with (first
        | (go_at_call 50; (with_reducible refine (c1 _).mono ?_); rintro e w1 ⟨rfl, rfl⟩)
        | (go_at_call 53; (with_reducible refine (c2 _).mono ?_); rintro e w2 ⟨rfl, rfl⟩)
        | (go_at_call 32; (with_reducible refine (cR _).mono ?_); rintro e w3 ⟨rfl, rfl⟩)
        | (go_at_call 52; (with_reducible refine (cQ _).mono ?_); rintro e w4 ⟨rfl, hb4⟩
           have hB4 := hB.below hb4 hB.lt
           obtain ⟨e0, e1, e2, e3, f0, f1, f2, f3⟩ := tk_cells hB4)
        | (go_at_call 54; (with_reducible refine (cS _ (Gr.alloc _ _)).mono ?_); rintro e w4 ⟨rfl, hb4⟩
           have hB4 := hB.below hb4 hB.lt
           obtain ⟨e0, e1, e2, e3, f0, f1, f2, f3⟩ := tk_cells hB4))
      obtain ⟨z0, z1, z2, z3, -⟩ := tk_cells (hB.tk4 (y0 := .int .i64 5) (y1 := .string (ba [c])) (y2 := .int .i64 0) (y3 := .int .i64 0))
      exact bodyPost_ret (v := .tuple #[.agg (tkC 5 (ba [c]) 0 0), .int .i64 1, .int .i64 0]) (by simp [results, Tryz.results34, go_sem]) rfl ⟨rfl, Gr.alloc _ _⟩
  · rw [lexOne_59 h1]
    have hi : (c.toNat : Int) = 59 := by omega
    clear h1 c1 c2 cS cR hx2 hle
    generalize hm : (c.toNat : Int) = m at *
    subst hi
    · go_enter Tryz.func34, Tryz.ntmps34
      go_wp2_with (first
        | (go_at_call 50; (with_reducible refine (c1 _).mono ?_); rintro e w1 ⟨rfl, rfl⟩)
        | (go_at_call 53; (with_reducible refine (c2 _).mono ?_); rintro e w2 ⟨rfl, rfl⟩)
        | (go_at_call 32; (with_reducible refine (cR _).mono ?_); rintro e w3 ⟨rfl, rfl⟩)
        | (go_at_call 52; (with_reducible refine (cQ _).mono ?_); rintro e w4 ⟨rfl, hb4⟩
           have hB4 := hB.below hb4 hB.lt
           obtain ⟨e0, e1, e2, e3, f0, f1, f2, f3⟩ := tk_cells hB4)
        | (go_at_call 54; (with_reducible refine (cS _ (Gr.alloc _ _)).mono ?_); rintro e w4 ⟨rfl, hb4⟩
           have hB4 := hB.below hb4 hB.lt
           obtain ⟨e0, e1, e2, e3, f0, f1, f2, f3⟩ := tk_cells hB4))
      obtain ⟨z0, z1, z2, z3, -⟩ := tk_cells (hB.tk4 (y0 := .int .i64 6) (y1 := .string (ba [c])) (y2 := .int .i64 0) (y3 := .int .i64 0))
      exact bodyPost_ret (v := .tuple #[.agg (tkC 6 (ba [c]) 0 0), .int .i64 1, .int .i64 0]) (by simp [results, Tryz.results34, go_sem]) rfl ⟨rfl, Gr.alloc _ _⟩
  · rw [lexOne_low h1]
    have h2 := lowB_iff.1 h1
    have hi : 97 ≤ (c.toNat : Int) ∧ (c.toNat : Int) ≤ 122 := by omega
    simp only [h1] at c1
    have hrk : (runL wordB (c :: r) : Int) ≤ r.length + 1 := by omega
    clear h1 h2 c2 cS
    generalize runL wordB (c :: r) = k at *
    generalize ba ((c :: r).take k) = tx at *
    have t40 : ((c.toNat : Int) == 40) = false := by simp; omega
    have t41 : ((c.toNat : Int) == 41) = false := by simp; omega
    have t59 : ((c.toNat : Int) == 59) = false := by simp; omega
    clear hi
    · go_enter Tryz.func34, Tryz.ntmps34
      go_wp2_with (first
        | (go_at_call 50; (with_reducible refine (c1 _).mono ?_); rintro e w1 ⟨rfl, rfl⟩)
        | (go_at_call 53; (with_reducible refine (c2 _).mono ?_); rintro e w2 ⟨rfl, rfl⟩)
        | (go_at_call 32; (with_reducible refine (cR _).mono ?_); rintro e w3 ⟨rfl, rfl⟩)
        | (go_at_call 52; (with_reducible refine (cQ _).mono ?_); rintro e w4 ⟨rfl, hb4⟩
           have hB4 := hB.below hb4 hB.lt
           obtain ⟨e0, e1, e2, e3, f0, f1, f2, f3⟩ := tk_cells hB4)
        | (go_at_call 54; (with_reducible refine (cS _ (Gr.alloc _ _)).mono ?_); rintro e w4 ⟨rfl, hb4⟩
           have hB4 := hB.below hb4 hB.lt
           obtain ⟨e0, e1, e2, e3, f0, f1, f2, f3⟩ := tk_cells hB4))
      obtain ⟨z0, z1, z2, z3, -⟩ := tk_cells (hB.tk4 (y0 := .int .i64 1) (y1 := .string tx) (y2 := .int .i64 0) (y3 := .int .i64 0))
      exact bodyPost_ret (v := .tuple #[.agg (tkC 1 tx 0 0), .int .i64 (k : Int), .int .i64 0]) (by simp [results, Tryz.results34, go_sem]) rfl ⟨rfl, Gr.alloc _ _⟩
  · have hc : c = 34 := UInt8.toNat_inj.mp (by rw [h1]; rfl)
    subst hc
    have h4 : lowB 34 = false := rfl
    replace c1 : ∀ W, Calls Tryz.prog 50 #[.int .u8 34] W fun e w' => e = .returned (.bool false) ∧ W = w' := fun W => small_any 34 W
    have cQ := fun W => quoted_any r W hl
    clear h1 h4 c2 cS cR hx1 hx2 hle
    generalize lexOne (34 :: r) = X at *
    obtain ⟨⟨xk, xt, xn, xa⟩, xl, xe⟩ := X
    dsimp only at *
    · go_enter Tryz.func34, Tryz.ntmps34
      go_wp2_with (first
        | (go_at_call 50; (with_reducible refine (c1 _).mono ?_); rintro e w1 ⟨rfl, rfl⟩)
        | (go_at_call 53; (with_reducible refine (c2 _).mono ?_); rintro e w2 ⟨rfl, rfl⟩)
        | (go_at_call 32; (with_reducible refine (cR _).mono ?_); rintro e w3 ⟨rfl, rfl⟩)
        | (go_at_call 52; (with_reducible refine (cQ _).mono ?_); rintro e w4 ⟨rfl, hb4⟩
           have hB4 := hB.below hb4 hB.lt
           obtain ⟨e0, e1, e2, e3, f0, f1, f2, f3⟩ := tk_cells hB4)
        | (go_at_call 54; (with_reducible refine (cS _ (Gr.alloc _ _)).mono ?_); rintro e w4 ⟨rfl, hb4⟩
           have hB4 := hB.below hb4 hB.lt
           obtain ⟨e0, e1, e2, e3, f0, f1, f2, f3⟩ := tk_cells hB4))
      obtain ⟨z0, z1, z2, z3, -⟩ := tk_cells (hB4.tk4 (y0 := .int .i64 xk) (y1 := .string xt) (y2 := .int .i64 xn) (y3 := .int .i64 0))
      exact bodyPost_ret (v := .tuple #[.agg (tkC xk xt xn 0), .int .i64 xl, .int .i64 xe]) (by simp [results, Tryz.results34, go_sem, z0, z1, z2, z3]) rfl ⟨rfl, gr_tk4 (Gr.trans (Gr.alloc _ _) hb4) (Nat.le_refl _)⟩
  · have h2 := digB_iff.1 h1
    have hi : 48 ≤ (c.toNat : Int) ∧ (c.toNat : Int) ≤ 57 := by omega
    have h4 : lowB c = false := lowB_no (by omega)
    simp only [h4] at c1
    replace cS := cS h1
    simp only [h1] at c2
    clear h1 h2 h4 cR hx1 hx2 hle
    generalize lexOne (c :: r) = X at *
    obtain ⟨⟨xk, xt, xn, xa⟩, xl, xe⟩ := X
    dsimp only at *
    have t40 : ((c.toNat : Int) == 40) = false := by simp; omega
    have t41 : ((c.toNat : Int) == 41) = false := by simp; omega
    have t59 : ((c.toNat : Int) == 59) = false := by simp; omega
    have t34 : ((c.toNat : Int) == 34) = false := by simp; omega
    clear hi
    · go_enter Tryz.func34, Tryz.ntmps34
      go_wp2_with (first
        | (go_at_call 50; (with_reducible refine (c1 _).mono ?_); rintro e w1 ⟨rfl, rfl⟩)
        | (go_at_call 53; (with_reducible refine (c2 _).mono ?_); rintro e w2 ⟨rfl, rfl⟩)
        | (go_at_call 32; (with_reducible refine (cR _).mono ?_); rintro e w3 ⟨rfl, rfl⟩)
        | (go_at_call 52; (with_reducible refine (cQ _).mono ?_); rintro e w4 ⟨rfl, hb4⟩
           have hB4 := hB.below hb4 hB.lt
           obtain ⟨e0, e1, e2, e3, f0, f1, f2, f3⟩ := tk_cells hB4)
        | (go_at_call 54; (with_reducible refine (cS _ (Gr.alloc _ _)).mono ?_); rintro e w4 ⟨rfl, hb4⟩
           have hB4 := hB.below hb4 hB.lt
           obtain ⟨e0, e1, e2, e3, f0, f1, f2, f3⟩ := tk_cells hB4))
      obtain ⟨z0, z1, z2, z3, -⟩ := tk_cells (hB4.tk4 (y0 := .int .i64 xk) (y1 := .string xt) (y2 := .int .i64 xn) (y3 := .int .i64 0))
      exact bodyPost_ret (v := .tuple #[.agg (tkC xk xt xn 0), .int .i64 xl, .int .i64 xe]) (by simp [results, Tryz.results34, go_sem, z0, z1, z2, z3]) rfl ⟨rfl, gr_tk4 (Gr.trans (Gr.alloc _ _) hb4) (Nat.le_refl _)⟩
  · rw [lexOne_other h1 h2 h3 h4 h5 h6]
    have t1 : ((c.toNat : Int) == 40) = false := by simp; omega
    have t2 : ((c.toNat : Int) == 41) = false := by simp; omega
    have t3 : ((c.toNat : Int) == 59) = false := by simp; omega
    have t5 : ((c.toNat : Int) == 34) = false := by simp; omega
    simp only [h4] at c1
    simp only [h6] at c2
    clear h1 h2 h3 h4 h5 h6 cS cR hx1 hx2 hle
    · go_enter Tryz.func34, Tryz.ntmps34
      go_wp2_with (first
        | (go_at_call 50; (with_reducible refine (c1 _).mono ?_); rintro e w1 ⟨rfl, rfl⟩)
        | (go_at_call 53; (with_reducible refine (c2 _).mono ?_); rintro e w2 ⟨rfl, rfl⟩)
        | (go_at_call 32; (with_reducible refine (cR _).mono ?_); rintro e w3 ⟨rfl, rfl⟩)
        | (go_at_call 52; (with_reducible refine (cQ _).mono ?_); rintro e w4 ⟨rfl, hb4⟩
           have hB4 := hB.below hb4 hB.lt
           obtain ⟨e0, e1, e2, e3, f0, f1, f2, f3⟩ := tk_cells hB4)
        | (go_at_call 54; (with_reducible refine (cS _ (Gr.alloc _ _)).mono ?_); rintro e w4 ⟨rfl, hb4⟩
           have hB4 := hB.below hb4 hB.lt
           obtain ⟨e0, e1, e2, e3, f0, f1, f2, f3⟩ := tk_cells hB4))
      obtain ⟨z0, z1, z2, z3, -⟩ := tk_cells hB
      exact bodyPost_ret (v := .tuple #[.agg (tkC 0 ⟨#[]⟩ 0 0), .int .i64 0, .int .i64 2]) (by simp [results, Tryz.results34, go_sem]) rfl ⟨rfl, Gr.alloc _ _⟩
end Go.Proofs.YtogpmihepfnoaaaGreatDoor
