/- The reference's dice: names, words, bytes, scopes. -/
import Derived.Test.YteoidkjiigjlaaaDoorGenC
namespace Go.Proofs.YteoidkjiigjlaaaDoor
open Go Go.RowKit

theorem addr0 (g j : Nat) : (⟨g, 0, none⟩ : Addr).add j = ⟨g, j, none⟩ := by
  unfold Addr.add
  split
  · rename_i h0; simp_all
  · simp
/-- The reference's dice, in a world that has grown since w0. -/
structure DR (w0 : World) (g : Nat) (w : World) (s : Int) : Prop where
  gr : Gr w0 w
  ge : w0.heap.size ≤ g
  dice : DiceR w g s
theorem DR.lt {w0 w : World} {g : Nat} {s : Int} (h : DR w0 g w s) : g < w.heap.size := h.dice.1.lt
theorem DR.x {w0 w w' : World} {g : Nat} {s s' : Int} (h : DR w0 g w s) (hx : GrX w w' g) (hd : DiceR w' g s') : DR w0 g w' s' := ⟨gr_x h.gr hx h.ge, h.ge, hd⟩
theorem DR.grow {w0 w w' : World} {g : Nat} {s : Int} (h : DR w0 g w s) (hx : Gr w w') : DR w0 g w' s := ⟨Gr.trans h.gr hx, h.ge, h.dice.1.below hx h.lt, h.dice.2⟩
theorem DR.far {w0 w : World} {g : Nat} {s : Int} (h : DR w0 g w s) {p : Addr} (hp : w0.heap.size ≤ p.block) (hg : g ≠ p.block) (v : Value) : DR w0 g (w.setCell p v) s :=
  ⟨h.gr.setCell hp v, h.ge, h.dice.1.far hg v, h.dice.2⟩
theorem DR.putF {w0 w : World} {g gx : Nat} {s : Int} {y0 y1 y2 y3 y4 : Value} (h : DR w0 g w s) (hg : w0.heap.size ≤ gx) (hn : g ≠ gx) : DR w0 g (set5w w gx y0 y1 y2 y3 y4) s := ((((h.far hg hn _).far hg hn _).far hg hn _).far hg hn _).far hg hn _
theorem rdbelow_any (w0 w : World) (g : Nat) (n s : Int) (h : DR w0 g w s) (hn : n ≤ 9223372036854775807) : Calls Tryd.prog 25 #[.pointer (some ⟨g, 0, none⟩), .int .i64 n] w fun e w' => e = .returned (.int .i64 (belowN n s)) ∧ DR w0 g w' (belowS n s) ∧ GrX w w' g :=
  (rbelow_any w g n s h.dice hn).mono fun _ _ ⟨h1, h2, h3⟩ => ⟨h1, h.x h3 h2, h3⟩

set_option maxRecDepth 100000 in
theorem rname_any (w0 w : World) (g : Nat) (s : Int) (h : DR w0 g w s) (c : UInt8) :
    Calls Tryd.prog 89 #[.pointer (some ⟨g, 0, none⟩), .string ⟨#[c]⟩] w fun e w' => e = .returned (.string (gName c s)) ∧ DR w0 g w' (belowS 4 s) ∧ GrX w w' g := by
  have hb := belowN_le 4 s (by omega)
  have H := rdbelow_any w0 w g 4 s h (by omega)
  unfold gName
  generalize belowN 4 s = m at *
  rcases (by omega : m = 0 ∨ m = 1 ∨ m = 2 ∨ m = 3) with rfl | rfl | rfl | rfl
  all_goals
    go_enter Tryd.func89, Tryd.ntmps89
    go_wp2_with (go_at_call 25; (with_reducible refine H.mono ?_); rintro e w1 ⟨rfl, hd1, hx1⟩)
    go_ret
    exact ⟨rfl, hd1, hx1⟩
set_option maxRecDepth 100000 in
theorem rclass_any (w0 w : World) (g : Nat) (s : Int) (h : DR w0 g w s) :
    Calls Tryd.prog 90 #[.pointer (some ⟨g, 0, none⟩)] w fun e w' => e = .returned (.string (gOne classesL s)) ∧ DR w0 g w' (belowS 3 s) ∧ GrX w w' g := by
  have hb := belowN_le 3 s (by omega)
  have H := rdbelow_any w0 _ g 3 s (h.grow (Gr.alloc w (.cells #[.string ⟨#[104, 114]⟩, .string ⟨#[116, 97, 120]⟩, .string ⟨#[109, 101, 100]⟩] 9))) (by omega)
  have hW := Words.lit w g h.lt #[.string ⟨#[104, 114]⟩, .string ⟨#[116, 97, 120]⟩, .string ⟨#[109, 101, 100]⟩] 9 classesL (by simp [classesL]) 3 rfl
  have hl : (classesL.length : Int) = 3 := rfl
  unfold gOne
  rw [hl]
  clear hl
  generalize belowN 3 s = m at *
  obtain ⟨k, rfl⟩ : ∃ k : Nat, m = k := ⟨m.toNat, by omega⟩
  rw [Int.toNat_natCast]
  have hk : k < 3 := by omega
  go_enter Tryd.func90, Tryd.ntmps90
  go_wp2_with (go_at_call 25; (with_reducible refine H.mono ?_); rintro e w1 ⟨rfl, hd1, hx1⟩; obtain ⟨ad, ea, hcell⟩ := (hW.x hx1).at_ rfl k hk; injection ea with ea; subst ea; rw [addr0] at hcell)
  go_ret
  exact ⟨rfl, hd1, (GrX.of_gr (Gr.alloc _ _) g).trans hx1⟩
set_option maxRecDepth 100000 in
theorem rfirst_any (w0 w : World) (g : Nat) (s k : Int) (h : DR w0 g w s) (h0 : 1 ≤ k) (h1 : k ≤ 22) :
    Calls Tryd.prog 87 #[.pointer (some ⟨g, 0, none⟩), .int .i64 k] w fun e w' => e = .returned (.string (gName (gLetter k) s)) ∧ DR w0 g w' (belowS 4 s) ∧ GrX w w' g := by
  have cN := fun c => rname_any w0 w g s h c
  rcases (by omega : k = 1 ∨ k = 2 ∨ k = 3 ∨ k = 4 ∨ k = 5 ∨ k = 6 ∨ k = 7 ∨ k = 8 ∨ k = 9 ∨ k = 10 ∨ k = 11 ∨ k = 12 ∨ k = 13 ∨ k = 14 ∨ k = 15 ∨ k = 16 ∨ k = 17 ∨ k = 18 ∨ k = 19 ∨ k = 20 ∨ k = 21 ∨ k = 22) with rfl | rfl | rfl | rfl | rfl | rfl | rfl | rfl | rfl | rfl | rfl | rfl | rfl | rfl | rfl | rfl | rfl | rfl | rfl | rfl | rfl | rfl
  all_goals
    go_enter Tryd.func87, Tryd.ntmps87
    go_wp2_with (go_at_call 89; (with_reducible refine (cN _).mono ?_); rintro e w1 ⟨rfl, hd1, hx1⟩)
    go_ret
    exact ⟨rfl, hd1, hx1⟩
set_option maxRecDepth 100000 in
theorem rsecond_any (w0 w : World) (g : Nat) (s k : Int) (h : DR w0 g w s) (h0 : 1 ≤ k) (h1 : k ≤ 22) :
    Calls Tryd.prog 88 #[.pointer (some ⟨g, 0, none⟩), .int .i64 k] w fun e w' => e = .returned (.string (gSecond k s)) ∧ DR w0 g w' (gSecondS k s) ∧ GrX w w' g := by
  have cN := rname_any w0 w g s h 99
  have cC := rclass_any w0 w g s h
  rcases (by omega : k = 5 ∨ k = 7 ∨ k ≠ 5 ∧ k ≠ 7) with rfl | rfl | ⟨n5, n7⟩
  · go_enter Tryd.func88, Tryd.ntmps88
    go_wp2_with (go_at_call 89; (with_reducible refine cN.mono ?_); rintro e w1 ⟨rfl, hd1, hx1⟩)
    go_ret
    exact ⟨rfl, hd1, hx1⟩
  · have hb := belowN_le 3 s (by omega)
    have H := rdbelow_any w0 _ g 3 s (h.grow (Gr.alloc w (.cells #[.string ⟨#[99, 108, 111, 115, 101, 100]⟩, .string ⟨#[108, 101, 102, 116]⟩, .string ⟨#[112, 97, 105, 100]⟩] 9))) (by omega)
    have hW := Words.lit w g h.lt #[.string ⟨#[99, 108, 111, 115, 101, 100]⟩, .string ⟨#[108, 101, 102, 116]⟩, .string ⟨#[112, 97, 105, 100]⟩] 9 milesL (by simp [milesL]) 3 rfl
    have e1 : gSecond 7 s = milesL.getD (belowN 3 s).toNat ⟨#[]⟩ := rfl
    have e2 : gSecondS 7 s = belowS 3 s := rfl
    rw [e1, e2]
    clear e1 e2
    generalize belowN 3 s = m at *
    obtain ⟨k, rfl⟩ : ∃ k : Nat, m = k := ⟨m.toNat, by omega⟩
    rw [Int.toNat_natCast]
    have hk : k < 3 := by omega
    go_enter Tryd.func88, Tryd.ntmps88
    go_wp2_with (go_at_call 25; (with_reducible refine H.mono ?_); rintro e w1 ⟨rfl, hd1, hx1⟩; obtain ⟨ad, ea, hcell⟩ := (hW.x hx1).at_ rfl k hk; injection ea with ea; subst ea; rw [addr0] at hcell)
    go_ret
    exact ⟨rfl, hd1, (GrX.of_gr (Gr.alloc _ _) g).trans hx1⟩
  · have e1 : gSecond k s = gOne classesL s := by unfold gSecond; rw [if_neg n5, if_neg n7]
    have e2 : gSecondS k s = belowS 3 s := by unfold gSecondS; rw [if_neg n5]
    rw [e1, e2]
    go_enter Tryd.func88, Tryd.ntmps88
    go_wp2_with (go_at_call 90; (with_reducible refine cC.mono ?_); rintro e w1 ⟨rfl, hd1, hx1⟩)
    go_ret
    exact ⟨rfl, hd1, hx1⟩
set_option maxRecDepth 100000 in
theorem rscope_leaf (w0 w : World) (g : Nat) (s : Int) (h : DR w0 g w s) (hm : belowN 4 s = 0 ∨ belowN 4 s = 1) :
    Calls Tryd.prog 92 #[.pointer (some ⟨g, 0, none⟩)] w fun e w' => ∃ v, e = .returned v ∧ RdSc w' (KN w w') (gScope s) v ∧ DR w0 g w' (gScopeS s) ∧ GrX w w' g := by
  have c4 := rdbelow_any w0 _ g 4 s (h.grow (Gr.alloc w (.cells (scC 0 ⟨#[]⟩ 0 0 (.slice none 0 0)) 85))) (by omega)
  have hz : g ≠ w.heap.size := by have := h.lt; omega
  have hz0 : w0.heap.size ≤ w.heap.size := h.gr.size
  rcases hm with hm | hm
  · have e1 : gScope s = .mk 1 ⟨#[]⟩ 0 0 [] := by unfold gScope; rw [if_pos hm]
    have e2 : gScopeS s = belowS 4 s := by unfold gScopeS; rw [if_pos hm]
    rw [e1, e2]
    rw [hm] at c4
    clear e1 e2 hm
    go_enter Tryd.func92, Tryd.ntmps92
    go_wp2_with (go_at_call 25; (with_reducible refine c4.mono ?_); rintro e w1 ⟨rfl, hd1, hx1⟩
                 have hB := (Blk.new w 85 (scC 0 ⟨#[]⟩ 0 0 (.slice none 0 0))).grown hx1 (by intro e; injection e with e; exact hz e.symm)
                 obtain ⟨⟨c0, c1, c2, c3, c5⟩, f0, f1, f2, f3, f5⟩ := five_all hB)
    obtain ⟨⟨z0, z1, z2, z3, z4⟩, -⟩ := five_all (hB.putF (y0 := .int .i64 1) (y1 := .string ⟨#[]⟩) (y2 := .int .i64 0) (y3 := .int .i64 0) (y4 := .slice none 0 0))
    exact bodyPost_ret (v := .agg (scC 1 ⟨#[]⟩ 0 0 (.slice none 0 0))) (by simp [results, Tryd.results92, go_sem, z0, z1, z2, z3, z4]) rfl ⟨_, rfl, rdSc_leaf _ _ _ _ _ _, hd1.putF hz0 hz, GrX.putF ((GrX.of_gr (Gr.alloc _ _) g).trans hx1) (Nat.le_refl _)⟩
  · have e1 : gScope s = .mk 2 (gName 99 (belowS 4 s)) 0 0 [] := by unfold gScope; rw [if_neg (by omega), if_pos hm]
    have e2 : gScopeS s = belowS 4 (belowS 4 s) := by unfold gScopeS; rw [if_neg (by omega), if_pos hm]
    rw [e1, e2]
    rw [hm] at c4
    clear e1 e2 hm
    have cN := fun W hd => rname_any w0 W g (belowS 4 s) hd 99
    generalize gName 99 (belowS 4 s) = nm at *
    go_enter Tryd.func92, Tryd.ntmps92
    go_wp2_with (first
      | (go_at_call 25; (with_reducible refine c4.mono ?_); rintro e w1 ⟨rfl, hd1, hx1⟩)
      | (go_at_call 89; (with_reducible refine (cN _ hd1).mono ?_); rintro e w2 ⟨rfl, hd2, hx2⟩
         have hx := hx1.trans hx2
         have hB := (Blk.new w 85 (scC 0 ⟨#[]⟩ 0 0 (.slice none 0 0))).grown hx (by intro e; injection e with e; exact hz e.symm)
         obtain ⟨⟨c0, c1, c2, c3, c5⟩, f0, f1, f2, f3, f5⟩ := five_all hB))
    obtain ⟨⟨z0, z1, z2, z3, z4⟩, -⟩ := five_all (hB.putF (y0 := .int .i64 2) (y1 := .string nm) (y2 := .int .i64 0) (y3 := .int .i64 0) (y4 := .slice none 0 0))
    exact bodyPost_ret (v := .agg (scC 2 nm 0 0 (.slice none 0 0))) (by simp [results, Tryd.results92, go_sem, z0, z1, z2, z3, z4]) rfl ⟨_, rfl, rdSc_leaf _ _ _ _ _ _, hd2.putF hz0 hz, GrX.putF ((GrX.of_gr (Gr.alloc _ _) g).trans hx) (Nat.le_refl _)⟩
set_option maxRecDepth 100000 in
set_option maxHeartbeats 1000000 in
theorem rscope_kids (w0 w : World) (g : Nat) (s : Int) (h : DR w0 g w s) (hm : belowN 4 s = 2 ∨ belowN 4 s = 3) :
    Calls Tryd.prog 92 #[.pointer (some ⟨g, 0, none⟩)] w fun e w' => ∃ v, e = .returned v ∧ RdSc w' (KN w w') (gScope s) v ∧ DR w0 g w' (gScopeS s) ∧ GrX w w' g := by
  have c4 := rdbelow_any w0 _ g 4 s (h.grow (Gr.alloc w (.cells (scC 0 ⟨#[]⟩ 0 0 (.slice none 0 0)) 85))) (by omega)
  have hz : g ≠ w.heap.size := by have := h.lt; omega
  have hz0 : w0.heap.size ≤ w.heap.size := h.gr.size
  rcases hm with hm | hm
  · have e1 : gScope s = .mk 8 ⟨#[]⟩ 0 0 [.mk 3 (gName 115 (belowS 4 s)) 0 0 []] := by unfold gScope; rw [if_neg (by omega), if_neg (by omega), if_pos hm]
    have e2 : gScopeS s = belowS 4 (belowS 4 s) := by unfold gScopeS; rw [if_neg (by omega), if_neg (by omega), if_pos hm]
    rw [e1, e2]
    rw [hm] at c4
    clear e1 e2 hm
    have cN := fun W hd => rname_any w0 W g (belowS 4 s) hd 115
    generalize gName 115 (belowS 4 s) = nm at *
    go_enter Tryd.func92, Tryd.ntmps92
    go_wp2_with (first
      | (go_at_call 25; (with_reducible refine c4.mono ?_); rintro e w1 ⟨rfl, hd1, hx1⟩)
      | (go_at_call 89; (with_reducible refine (cN _ hd1).mono ?_); rintro e w2 ⟨rfl, hd2, hx2⟩
         have hx := (GrX.of_gr (Gr.alloc w (.cells (scC 0 ⟨#[]⟩ 0 0 (.slice none 0 0)) 85)) g).trans (hx1.trans hx2)
         have hB := (((Blk.new w 85 (scC 0 ⟨#[]⟩ 0 0 (.slice none 0 0))).grown (hx1.trans hx2) (by intro e; injection e with e; exact hz e.symm))).alloc (.cells (scC 3 nm 0 0 (.slice none 0 0)) 85)
         obtain ⟨⟨c0, c1, c2, c3, c5⟩, f0, f1, f2, f3, f5⟩ := five_all hB))
    have hne : w2.heap.size ≠ w.heap.size := by
      have := hx1.size
      have := hx2.size
      simp at *
      omega
    have hzs : w.heap.size ≤ w2.heap.size := hx.size
    have hK := (Blk.new w2 85 (scC 3 nm 0 0 (.slice none 0 0))).putF_far (y0 := .int .i64 8) (y1 := .string ⟨#[]⟩) (y2 := .int .i64 0) (y3 := .int .i64 0) (y4 := .slice (some ⟨w2.heap.size, 0, none⟩) 1 1) hne
    obtain ⟨⟨z0, z1, z2, z3, z4⟩, -⟩ := five_all (hB.putF (y0 := .int .i64 8) (y1 := .string ⟨#[]⟩) (y2 := .int .i64 0) (y3 := .int .i64 0) (y4 := .slice (some ⟨w2.heap.size, 0, none⟩) 1 1))
    refine bodyPost_ret (v := .agg (scC 8 ⟨#[]⟩ 0 0 (.slice (some ⟨w2.heap.size, 0, none⟩) 1 1))) (by simp [results, Tryd.results92, go_sem, z0, z1, z2, z3, z4]) rfl ⟨_, rfl, ?_, (hd2.grow (Gr.alloc _ _)).putF hz0 hz, GrX.putF (hx.new _) (Nat.le_refl _)⟩
    rw [RdSc]
    refine ⟨_, 1, _, rfl, ⟨Nat.le_refl _, by unfold maxLen; omega⟩, rk_of_blk (sz := 5) hK ⟨hzs, hK.lt⟩ rfl, ?_⟩
    rw [RdScL]
    refine ⟨_, _, _, _, _, [], rfl, rdSc_leaf _ _ _ _ _ _, by rw [RdScL]⟩
  · have e1 : gScope s = .mk 7 ⟨#[]⟩ 0 0 [.mk 4 ⟨#[104, 114]⟩ 0 0 [], .mk 5 ⟨#[]⟩ 0 (belowN 9 (belowS 4 s)) []] := by unfold gScope; rw [if_neg (by omega), if_neg (by omega), if_neg (by omega)]
    have e2 : gScopeS s = belowS 9 (belowS 4 s) := by unfold gScopeS; rw [if_neg (by omega), if_neg (by omega), if_neg (by omega)]
    rw [e1, e2]
    rw [hm] at c4
    clear e1 e2 hm
    have c9 := fun W hd => rdbelow_any w0 W g 9 (belowS 4 s) hd (by omega)
    generalize belowN 9 (belowS 4 s) = nm at *
    go_enter Tryd.func92, Tryd.ntmps92
    go_wp2_with (first
      | (go_at_call 25; (with_reducible refine c4.mono ?_); rintro e w1 ⟨rfl, hd1, hx1⟩)
      | (go_at_call 25; (with_reducible refine (c9 _ hd1).mono ?_); rintro e w2 ⟨rfl, hd2, hx2⟩
         have hx := (GrX.of_gr (Gr.alloc w (.cells (scC 0 ⟨#[]⟩ 0 0 (.slice none 0 0)) 85)) g).trans (hx1.trans hx2)
         have hB := (((Blk.new w 85 (scC 0 ⟨#[]⟩ 0 0 (.slice none 0 0))).grown (hx1.trans hx2) (by intro e; injection e with e; exact hz e.symm))).alloc (.cells #[.int .i64 4, .string ⟨#[104, 114]⟩, .int .i64 0, .int .i64 0, .slice none 0 0, .int .i64 5, .string ⟨#[]⟩, .int .i64 0, .int .i64 nm, .slice none 0 0] 85)
         obtain ⟨⟨c0, c1, c2, c3, c5⟩, f0, f1, f2, f3, f5⟩ := five_all hB))
    have hne : w2.heap.size ≠ w.heap.size := by
      have := hx1.size
      have := hx2.size
      simp at *
      omega
    have hzs : w.heap.size ≤ w2.heap.size := hx.size
    have hK := (Blk.new w2 85 #[.int .i64 4, .string ⟨#[104, 114]⟩, .int .i64 0, .int .i64 0, .slice none 0 0, .int .i64 5, .string ⟨#[]⟩, .int .i64 0, .int .i64 nm, .slice none 0 0]).putF_far (y0 := .int .i64 7) (y1 := .string ⟨#[]⟩) (y2 := .int .i64 0) (y3 := .int .i64 0) (y4 := .slice (some ⟨w2.heap.size, 0, none⟩) 2 2) hne
    obtain ⟨⟨z0, z1, z2, z3, z4⟩, -⟩ := five_all (hB.putF (y0 := .int .i64 7) (y1 := .string ⟨#[]⟩) (y2 := .int .i64 0) (y3 := .int .i64 0) (y4 := .slice (some ⟨w2.heap.size, 0, none⟩) 2 2))
    refine bodyPost_ret (v := .agg (scC 7 ⟨#[]⟩ 0 0 (.slice (some ⟨w2.heap.size, 0, none⟩) 2 2))) (by simp [results, Tryd.results92, go_sem, z0, z1, z2, z3, z4]) rfl ⟨_, rfl, ?_, (hd2.grow (Gr.alloc _ _)).putF hz0 hz, GrX.putF (hx.new _) (Nat.le_refl _)⟩
    rw [RdSc]
    refine ⟨_, 2, _, rfl, ⟨Nat.le_refl _, by unfold maxLen; omega⟩, rk_of_blk (sz := 5) hK ⟨hzs, hK.lt⟩ rfl, ?_⟩
    rw [RdScL]
    refine ⟨_, _, _, _, _, _, rfl, rdSc_leaf _ _ _ _ _ _, ?_⟩
    rw [RdScL]
    refine ⟨_, _, _, _, _, [], rfl, rdSc_leaf _ _ _ _ _ _, by rw [RdScL]⟩
theorem rscope_any (w0 w : World) (g : Nat) (s : Int) (h : DR w0 g w s) :
    Calls Tryd.prog 92 #[.pointer (some ⟨g, 0, none⟩)] w fun e w' => ∃ v, e = .returned v ∧ RdSc w' (KN w w') (gScope s) v ∧ DR w0 g w' (gScopeS s) ∧ GrX w w' g := by
  have hb := belowN_le 4 s (by omega)
  rcases (by omega : (belowN 4 s = 0 ∨ belowN 4 s = 1) ∨ (belowN 4 s = 2 ∨ belowN 4 s = 3)) with hm | hm
  · exact rscope_leaf w0 w g s h hm
  · exact rscope_kids w0 w g s h hm
end Go.Proofs.YteoidkjiigjlaaaDoor
