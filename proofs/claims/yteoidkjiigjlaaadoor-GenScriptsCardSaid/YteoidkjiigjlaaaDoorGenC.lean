/- The program's dice: scopes, commands. -/
import Derived.Test.YteoidkjiigjlaaaDoorGenD
namespace Go.Proofs.YteoidkjiigjlaaaDoor
open Go Go.RowKit

theorem five_all {W : World} {g : Nat} {T : TypeId} {x0 x1 x2 x3 x4 : Value} (h : Blk W g T #[x0, x1, x2, x3, x4]) :
    (W.cell? ⟨g, 0, none⟩ = some x0 ∧ W.cell? ⟨g, 1, none⟩ = some x1 ∧ W.cell? ⟨g, 2, none⟩ = some x2 ∧ W.cell? ⟨g, 3, none⟩ = some x3 ∧ W.cell? ⟨g, 4, none⟩ = some x4) ∧
    (W.frozen? ⟨g, 0, none⟩ = false ∧ W.frozen? ⟨g, 1, none⟩ = false ∧ W.frozen? ⟨g, 2, none⟩ = false ∧ W.frozen? ⟨g, 3, none⟩ = false ∧ W.frozen? ⟨g, 4, none⟩ = false) :=
  ⟨⟨h.cell 0, h.cell 1, h.cell 2, h.cell 3, h.cell 4⟩, ⟨h.frozen 0, h.frozen 1, h.frozen 2, h.frozen 3, h.frozen 4⟩⟩
abbrev set5w (w : World) (g : Nat) (y0 y1 y2 y3 y4 : Value) : World := ((((w.setCell ⟨g, 0, none⟩ y0).setCell ⟨g, 1, none⟩ y1).setCell ⟨g, 2, none⟩ y2).setCell ⟨g, 3, none⟩ y3).setCell ⟨g, 4, none⟩ y4
theorem Blk.putF {w : World} {g : Nat} {T : TypeId} {x0 x1 x2 x3 x4 y0 y1 y2 y3 y4 : Value} (h : Blk w g T #[x0, x1, x2, x3, x4]) : Blk (set5w w g y0 y1 y2 y3 y4) g T #[y0, y1, y2, y3, y4] := by
  simpa using ((((h.set_ 0 y0).set_ 1 y1).set_ 2 y2).set_ 3 y3).set_ 4 y4
theorem GrX.putF {w w' : World} {g gx : Nat} {y0 y1 y2 y3 y4 : Value} (h : GrX w w' g) (hg : w.heap.size ≤ gx) : GrX w (set5w w' gx y0 y1 y2 y3 y4) g := ((((h.far hg _).far hg _).far hg _).far hg _).far hg _
theorem DP.putF {w0 w : World} {g gx : Nat} {s : Int} {y0 y1 y2 y3 y4 : Value} (h : DP w0 g w s) (hg : w0.heap.size ≤ gx) (hn : g ≠ gx) : DP w0 g (set5w w gx y0 y1 y2 y3 y4) s := ((((h.far hg hn _).far hg hn _).far hg hn _).far hg hn _).far hg hn _
/-- A scope without kids. -/
theorem rdSc_leaf (w : World) (K : Nat → Prop) (op fr to_ : Int) (nm : ByteArray) : RdSc w K (.mk op nm fr to_ []) (.agg #[.int .i64 op, .string nm, .int .i64 fr, .int .i64 to_, .slice none 0 0]) := by
  rw [RdSc]
  exact ⟨none, 0, [], rfl, ⟨Nat.le_refl _, by unfold maxLen; omega⟩, Rk.nil w K 5 none, by rw [RdScL]⟩
theorem rk_of_blk {w : World} {K : Nat → Prop} {gb n sz : Nat} {T : TypeId} {cs : Array Value} (h : Blk w gb T cs) (hK : K gb) (hn : cs.size = n * sz) : Rk w K sz (some ⟨gb, 0, none⟩) n cs.toList := by
  refine ⟨by simpa using hn, fun _ => ⟨_, rfl, hK, fun j u hu => ?_⟩⟩
  have e : (⟨gb, 0, none⟩ : Addr).add j = ⟨gb, j, none⟩ := by
    unfold Addr.add
    split
    · rename_i h0; simp_all
    · simp
  rw [e, h.cell j, ← Array.getElem?_toList, hu]
abbrev scC (op : Int) (nm : ByteArray) (fr to_ : Int) (v : Value) : Array Value := #[.int .i64 op, .string nm, .int .i64 fr, .int .i64 to_, v]
set_option maxRecDepth 100000 in
theorem gscope_leaf (w0 w : World) (g : Nat) (s : Int) (h : DP w0 g w s) (hm : belowN 4 s = 0 ∨ belowN 4 s = 1) :
    Calls Tryd.prog 85 #[.pointer (some ⟨g, 0, none⟩)] w fun e w' => ∃ v, e = .returned v ∧ RdSc w' (KN w w') (gScope s) v ∧ DP w0 g w' (gScopeS s) ∧ GrX w w' g := by
  have c4 := dbelow_any w0 _ g 4 s (h.grow (Gr.alloc w (.cells (scC 0 ⟨#[]⟩ 0 0 (.slice none 0 0)) 85))) (by omega)
  have hz : g ≠ w.heap.size := by have := h.lt; omega
  have hz0 : w0.heap.size ≤ w.heap.size := h.gr.size
  rcases hm with hm | hm
  · have e1 : gScope s = .mk 1 ⟨#[]⟩ 0 0 [] := by unfold gScope; rw [if_pos hm]
    have e2 : gScopeS s = belowS 4 s := by unfold gScopeS; rw [if_pos hm]
    rw [e1, e2]
    rw [hm] at c4
    clear e1 e2 hm
    go_enter Tryd.func85, Tryd.ntmps85
    go_wp2_with (go_at_call 24; (with_reducible refine c4.mono ?_); rintro e w1 ⟨rfl, hd1, hx1⟩
                 have hB := (Blk.new w 85 (scC 0 ⟨#[]⟩ 0 0 (.slice none 0 0))).grown hx1 (by intro e; injection e with e; exact hz e.symm)
                 obtain ⟨⟨c0, c1, c2, c3, c5⟩, f0, f1, f2, f3, f5⟩ := five_all hB)
    obtain ⟨⟨z0, z1, z2, z3, z4⟩, -⟩ := five_all (hB.putF (y0 := .int .i64 1) (y1 := .string ⟨#[]⟩) (y2 := .int .i64 0) (y3 := .int .i64 0) (y4 := .slice none 0 0))
    exact bodyPost_ret (v := .agg (scC 1 ⟨#[]⟩ 0 0 (.slice none 0 0))) (by simp [results, Tryd.results85, go_sem, z0, z1, z2, z3, z4]) rfl ⟨_, rfl, rdSc_leaf _ _ _ _ _ _, hd1.putF hz0 hz, GrX.putF ((GrX.of_gr (Gr.alloc _ _) g).trans hx1) (Nat.le_refl _)⟩
  · have e1 : gScope s = .mk 2 (gName 99 (belowS 4 s)) 0 0 [] := by unfold gScope; rw [if_neg (by omega), if_pos hm]
    have e2 : gScopeS s = belowS 4 (belowS 4 s) := by unfold gScopeS; rw [if_neg (by omega), if_pos hm]
    rw [e1, e2]
    rw [hm] at c4
    clear e1 e2 hm
    have cN := fun W hd => gname_any w0 W g (belowS 4 s) hd 99 (.inl rfl)
    have hN : UInt8.ofNat (Int.toNat 99) = 99 := rfl
    rw [hN] at cN
    generalize gName 99 (belowS 4 s) = nm at *
    go_enter Tryd.func85, Tryd.ntmps85
    go_wp2_with (first
      | (go_at_call 24; (with_reducible refine c4.mono ?_); rintro e w1 ⟨rfl, hd1, hx1⟩)
      | (go_at_call 81; (with_reducible refine (cN _ hd1).mono ?_); rintro e w2 ⟨rfl, hd2, hx2⟩
         have hx := hx1.trans hx2
         have hB := (Blk.new w 85 (scC 0 ⟨#[]⟩ 0 0 (.slice none 0 0))).grown hx (by intro e; injection e with e; exact hz e.symm)
         obtain ⟨⟨c0, c1, c2, c3, c5⟩, f0, f1, f2, f3, f5⟩ := five_all hB))
    obtain ⟨⟨z0, z1, z2, z3, z4⟩, -⟩ := five_all (hB.putF (y0 := .int .i64 2) (y1 := .string nm) (y2 := .int .i64 0) (y3 := .int .i64 0) (y4 := .slice none 0 0))
    exact bodyPost_ret (v := .agg (scC 2 nm 0 0 (.slice none 0 0))) (by simp [results, Tryd.results85, go_sem, z0, z1, z2, z3, z4]) rfl ⟨_, rfl, rdSc_leaf _ _ _ _ _ _, hd2.putF hz0 hz, GrX.putF ((GrX.of_gr (Gr.alloc _ _) g).trans hx) (Nat.le_refl _)⟩
theorem Blk.putF_far {w : World} {gk gx : Nat} {T : TypeId} {cs : Array Value} {y0 y1 y2 y3 y4 : Value} (h : Blk w gk T cs) (hn : gk ≠ gx) : Blk (set5w w gx y0 y1 y2 y3 y4) gk T cs := ((((h.far hn _).far hn _).far hn _).far hn _).far hn _
theorem putF_size (w : World) (gx : Nat) (y0 y1 y2 y3 y4 : Value) : (set5w w gx y0 y1 y2 y3 y4).heap.size = w.heap.size := by simp
set_option maxRecDepth 100000 in
set_option maxHeartbeats 1000000 in
theorem gscope_kids (w0 w : World) (g : Nat) (s : Int) (h : DP w0 g w s) (hm : belowN 4 s = 2 ∨ belowN 4 s = 3) :
    Calls Tryd.prog 85 #[.pointer (some ⟨g, 0, none⟩)] w fun e w' => ∃ v, e = .returned v ∧ RdSc w' (KN w w') (gScope s) v ∧ DP w0 g w' (gScopeS s) ∧ GrX w w' g := by
  have c4 := dbelow_any w0 _ g 4 s (h.grow (Gr.alloc w (.cells (scC 0 ⟨#[]⟩ 0 0 (.slice none 0 0)) 85))) (by omega)
  have hz : g ≠ w.heap.size := by have := h.lt; omega
  have hz0 : w0.heap.size ≤ w.heap.size := h.gr.size
  rcases hm with hm | hm
  · have e1 : gScope s = .mk 8 ⟨#[]⟩ 0 0 [.mk 3 (gName 115 (belowS 4 s)) 0 0 []] := by unfold gScope; rw [if_neg (by omega), if_neg (by omega), if_pos hm]
    have e2 : gScopeS s = belowS 4 (belowS 4 s) := by unfold gScopeS; rw [if_neg (by omega), if_neg (by omega), if_pos hm]
    rw [e1, e2]
    rw [hm] at c4
    clear e1 e2 hm
    have cN := fun W hd => gname_any w0 W g (belowS 4 s) hd 115 (.inr (.inl rfl))
    have hN : UInt8.ofNat (Int.toNat 115) = 115 := rfl
    rw [hN] at cN
    generalize gName 115 (belowS 4 s) = nm at *
    go_enter Tryd.func85, Tryd.ntmps85
    go_wp2_with (first
      | (go_at_call 24; (with_reducible refine c4.mono ?_); rintro e w1 ⟨rfl, hd1, hx1⟩)
      | (go_at_call 81; (with_reducible refine (cN _ hd1).mono ?_); rintro e w2 ⟨rfl, hd2, hx2⟩
         have hx := (GrX.of_gr (Gr.alloc w (.cells (scC 0 ⟨#[]⟩ 0 0 (.slice none 0 0)) 85)) g).trans (hx1.trans hx2)
         have hB := (((Blk.new w 85 (scC 0 ⟨#[]⟩ 0 0 (.slice none 0 0))).grown (hx1.trans hx2) (by intro e; injection e with e; exact hz e.symm))).alloc (.cells (scC 3 nm 0 0 (.slice none 0 0)) 85)
         obtain ⟨⟨c0, c1, c2, c3, c5⟩, f0, f1, f2, f3, f5⟩ := five_all hB))
    have hne : w2.heap.size ≠ w.heap.size := by
      have := hx1.size
      have := hx2.size
      simp at *
      omega
    have hzs : w.heap.size ≤ w2.heap.size := hx.size
    have hK := (Blk.new w2 85 (scC 3 nm 0 0 (.slice none 0 0))).putF_far (y0 := .int .i64 8) (y1 := .string ⟨#[]⟩) (y2 := .int .i64 0) (y3 := .int .i64 0) (y4 := .slice (some ⟨w2.heap.size, 0, none⟩) 1 1) hne
    obtain ⟨⟨z0, z1, z2, z3, z4⟩, -⟩ := five_all (hB.putF (y0 := .int .i64 8) (y1 := .string ⟨#[]⟩) (y2 := .int .i64 0) (y3 := .int .i64 0) (y4 := .slice (some ⟨w2.heap.size, 0, none⟩) 1 1))
    refine bodyPost_ret (v := .agg (scC 8 ⟨#[]⟩ 0 0 (.slice (some ⟨w2.heap.size, 0, none⟩) 1 1))) (by simp [results, Tryd.results85, go_sem, z0, z1, z2, z3, z4]) rfl ⟨_, rfl, ?_, (hd2.grow (Gr.alloc _ _)).putF hz0 hz, GrX.putF (hx.new _) (Nat.le_refl _)⟩
    rw [RdSc]
    refine ⟨_, 1, _, rfl, ⟨Nat.le_refl _, by unfold maxLen; omega⟩, rk_of_blk (sz := 5) hK ⟨hzs, hK.lt⟩ rfl, ?_⟩
    rw [RdScL]
    refine ⟨_, _, _, _, _, [], rfl, rdSc_leaf _ _ _ _ _ _, by rw [RdScL]⟩
  · have e1 : gScope s = .mk 7 ⟨#[]⟩ 0 0 [.mk 4 ⟨#[104, 114]⟩ 0 0 [], .mk 5 ⟨#[]⟩ 0 (belowN 9 (belowS 4 s)) []] := by unfold gScope; rw [if_neg (by omega), if_neg (by omega), if_neg (by omega)]
    have e2 : gScopeS s = belowS 9 (belowS 4 s) := by unfold gScopeS; rw [if_neg (by omega), if_neg (by omega), if_neg (by omega)]
    rw [e1, e2]
    rw [hm] at c4
    clear e1 e2 hm
    have c9 := fun W hd => dbelow_any w0 W g 9 (belowS 4 s) hd (by omega)
    generalize belowN 9 (belowS 4 s) = nm at *
    go_enter Tryd.func85, Tryd.ntmps85
    go_wp2_with (first
      | (go_at_call 24; (with_reducible refine c4.mono ?_); rintro e w1 ⟨rfl, hd1, hx1⟩)
      | (go_at_call 24; (with_reducible refine (c9 _ hd1).mono ?_); rintro e w2 ⟨rfl, hd2, hx2⟩
         have hx := (GrX.of_gr (Gr.alloc w (.cells (scC 0 ⟨#[]⟩ 0 0 (.slice none 0 0)) 85)) g).trans (hx1.trans hx2)
         have hB := (((Blk.new w 85 (scC 0 ⟨#[]⟩ 0 0 (.slice none 0 0))).grown (hx1.trans hx2) (by intro e; injection e with e; exact hz e.symm))).alloc (.cells #[.int .i64 4, .string ⟨#[104, 114]⟩, .int .i64 0, .int .i64 0, .slice none 0 0, .int .i64 5, .string ⟨#[]⟩, .int .i64 0, .int .i64 nm, .slice none 0 0] 85)
         obtain ⟨⟨c0, c1, c2, c3, c5⟩, f0, f1, f2, f3, f5⟩ := five_all hB))
    have hne : w2.heap.size ≠ w.heap.size := by
      have := hx1.size
      have := hx2.size
      simp at *
      omega
    have hzs : w.heap.size ≤ w2.heap.size := hx.size
    have hK := (Blk.new w2 85 #[.int .i64 4, .string ⟨#[104, 114]⟩, .int .i64 0, .int .i64 0, .slice none 0 0, .int .i64 5, .string ⟨#[]⟩, .int .i64 0, .int .i64 nm, .slice none 0 0]).putF_far (y0 := .int .i64 7) (y1 := .string ⟨#[]⟩) (y2 := .int .i64 0) (y3 := .int .i64 0) (y4 := .slice (some ⟨w2.heap.size, 0, none⟩) 2 2) hne
    obtain ⟨⟨z0, z1, z2, z3, z4⟩, -⟩ := five_all (hB.putF (y0 := .int .i64 7) (y1 := .string ⟨#[]⟩) (y2 := .int .i64 0) (y3 := .int .i64 0) (y4 := .slice (some ⟨w2.heap.size, 0, none⟩) 2 2))
    refine bodyPost_ret (v := .agg (scC 7 ⟨#[]⟩ 0 0 (.slice (some ⟨w2.heap.size, 0, none⟩) 2 2))) (by simp [results, Tryd.results85, go_sem, z0, z1, z2, z3, z4]) rfl ⟨_, rfl, ?_, (hd2.grow (Gr.alloc _ _)).putF hz0 hz, GrX.putF (hx.new _) (Nat.le_refl _)⟩
    rw [RdSc]
    refine ⟨_, 2, _, rfl, ⟨Nat.le_refl _, by unfold maxLen; omega⟩, rk_of_blk (sz := 5) hK ⟨hzs, hK.lt⟩ rfl, ?_⟩
    rw [RdScL]
    refine ⟨_, _, _, _, _, _, rfl, rdSc_leaf _ _ _ _ _ _, ?_⟩
    rw [RdScL]
    refine ⟨_, _, _, _, _, [], rfl, rdSc_leaf _ _ _ _ _ _, by rw [RdScL]⟩
theorem gscope_any (w0 w : World) (g : Nat) (s : Int) (h : DP w0 g w s) :
    Calls Tryd.prog 85 #[.pointer (some ⟨g, 0, none⟩)] w fun e w' => ∃ v, e = .returned v ∧ RdSc w' (KN w w') (gScope s) v ∧ DP w0 g w' (gScopeS s) ∧ GrX w w' g := by
  have hb := belowN_le 4 s (by omega)
  rcases (by omega : (belowN 4 s = 0 ∨ belowN 4 s = 1) ∨ (belowN 4 s = 2 ∨ belowN 4 s = 3)) with hm | hm
  · exact gscope_leaf w0 w g s h hm
  · exact gscope_kids w0 w g s h hm
end Go.Proofs.YteoidkjiigjlaaaDoor
