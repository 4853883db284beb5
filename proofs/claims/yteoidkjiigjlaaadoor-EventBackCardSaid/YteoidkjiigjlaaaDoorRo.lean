/- The reference's readers of bytes. -/
import Derived.Test.YteoidkjiigjlaaaDoorRdNum
namespace Go.Proofs.YteoidkjiigjlaaaDoor
open Go Go.RowKit

/-- A reader of the reference in memory. -/
def RdrO (w : World) (g : Nat) (s : Rs) : Prop := ∃ v, Blk w g 80 #[v, .bool s.1] ∧ RdB w g v s.2
theorem RdrO.gr {w w' : World} {g : Nat} {s : Rs} (h : RdrO w g s) (hg : Gr w w') : RdrO w' g s := by
  obtain ⟨v, h1, h2⟩ := h
  exact ⟨v, h1.below hg h1.lt, h2.gr (Nat.le_of_lt h1.lt) hg⟩
theorem two_cells {W : World} {g : Nat} {T : TypeId} {x0 x1 : Value} (h : Blk W g T #[x0, x1]) : W.cell? ⟨g, 0, none⟩ = some x0 ∧ W.cell? ⟨g, 1, none⟩ = some x1 ∧ W.frozen? ⟨g, 0, none⟩ = false ∧ W.frozen? ⟨g, 1, none⟩ = false :=
  ⟨h.cell 0, h.cell 1, h.frozen 0, h.frozen 1⟩
theorem RdrO.fail {w : World} {g : Nat} {s : Rs} (h : RdrO w g s) : RdrO (w.setCell ⟨g, 1, none⟩ (.bool true)) g (true, s.2) ∧ GrX w (w.setCell ⟨g, 1, none⟩ (.bool true)) g := by
  obtain ⟨v, h1, A, c, e, hc, hr⟩ := h
  exact ⟨⟨v, by simpa using h1.set_ 1 (.bool true), A, c, e, hc, hr.setCell (Nat.le_refl _) _⟩, GrX.set_ (World.grownBy.refl _ _) 1 _⟩
theorem otake_end {w w2 : World} {g : Nat} {v0 V : Value} {l : List UInt8} (h1 : Blk w g 80 #[v0, .bool false]) (hb2 : Gr w w2) (hV : RdB w g V l) : RdrO (w2.setCell ⟨g, 0, none⟩ V) g (false, l) ∧ GrX w (w2.setCell ⟨g, 0, none⟩ V) g := by
  have h2 := h1.below hb2 h1.lt
  obtain ⟨A, c, e, hc, hr⟩ := hV.gr (Nat.le_of_lt h1.lt) hb2
  exact ⟨⟨V, by simpa using h2.set_ 0 V, A, c, e, hc, hr.setCell (Nat.le_refl _) _⟩, GrX.set_ (GrX.of_gr hb2 g) 0 V⟩
theorem OwnB.set_ {w : World} {base g i : Nat} {v u : Value} {l : List UInt8} (h : OwnB w base v l) (hg : g < base) : OwnB (w.setCell ⟨g, i, none⟩ u) base v l := by
  refine ⟨h.1, ?_⟩
  rcases h.2 with h0 | ⟨g', cap, cur, e1, e2, e3, e4⟩
  · exact .inl h0
  · exact .inr ⟨g', cap, cur, e1, e2, (Below.heap_setCell w ⟨g, i, none⟩ u g' (by intro e; simp at e; omega)).trans e3, e4⟩

theorem RdB.headc {w : World} {B n c : Nat} {A : Option Addr} {l : List UInt8} (h : Reads w B 1 A l.length (bvs l)) (hn : n ≤ l.length) (hc : n ≤ c) : RdB w B (.slice A n c) (l.take n) := by
  have hl : (l.take n).length = n := by rw [List.length_take]; omega
  obtain ⟨A', c', e, _, hr⟩ := RdB.head h hn
  injection e with e1 e2 e3
  subst e1
  exact ⟨A, c, by rw [hl], by omega, hr⟩
set_option maxRecDepth 100000 in
set_option maxHeartbeats 2000000 in
theorem otake_any (w : World) (g : Nat) (n : Int) (s : Rs) (h : RdrO w g s) (hl : s.2.length ≤ 1073741824) : Calls Tryd.prog 58 #[.pointer (some ⟨g, 0, none⟩), .int .i64 n] w fun e w' => ∃ v, e = .returned v ∧ OwnB w' w.heap.size v (takeD s n).1 ∧ RdrO w' g (takeD s n).2 ∧ GrX w w' g := by
  have hf := h.fail
  obtain ⟨f, l⟩ := s
  obtain ⟨v, h1, h2⟩ := h
  obtain ⟨c0, c1, f0, f1⟩ := two_cells h1
  obtain ⟨A, c, rfl, hc, hr⟩ := h2
  dsimp only at c0 c1 hr hc hl hf ⊢
  by_cases hn : f = true ∨ n < 0 ∨ (l.length : Int) < n
  · rw [takeD, if_pos hn]
    cases f
    · rcases (by simpa using hn : n < 0 ∨ (l.length : Int) < n) with h | h
      all_goals
        go_enter Tryd.func58, Tryd.ntmps58
        go_wp2
        all_goals (try (exfalso; omega))
        all_goals go_ret
        all_goals exact ⟨_, rfl, OwnB.nil _ _, hf.1, hf.2⟩
    · go_enter Tryd.func58, Tryd.ntmps58
      go_wp2
      go_ret
      exact ⟨_, rfl, OwnB.nil _ _, hf.1, hf.2⟩
  · rw [takeD, if_neg hn]
    obtain rfl : f = false := by cases f <;> simp_all
    obtain ⟨k, rfl⟩ : ∃ k : Nat, n = k := ⟨n.toNat, by omega⟩
    rw [Int.toNat_natCast]
    have hk : k ≤ l.length := by simp only [Bool.false_eq_true, false_or] at hn; omega
    clear hn hf
    have hcut := Lib.hid (RdB.cut hr hc hk)
    have hhead := RdB.headc (c := c) hr hk (by omega)
    by_cases hcn : c = k
    · subst hcn
      have hcut' := hcut.out
      rw [if_pos rfl] at hcut'
      obtain rfl : c = l.length := by omega
      go_enter Tryd.func58, Tryd.ntmps58
      go_wp2_with (go_at_call 57; (with_reducible refine (copy_any w g _ _ (Nat.le_of_lt h1.lt) hhead (by rw [List.length_take]; omega)).mono ?_); rintro e w2 ⟨v2, rfl, ho2, hb2⟩
                   obtain ⟨d0, d1, e0, e1⟩ := two_cells (h1.below hb2 h1.lt))
      go_ret
      obtain ⟨x1, x2⟩ := otake_end h1 hb2 (V := _) (by simpa using hcut')
      exact ⟨_, rfl, ho2.set_ h1.lt, by simpa using x1, by simpa using x2⟩
    · have hcut' := hcut.out
      rw [if_neg hcn] at hcut'
      go_enter Tryd.func58, Tryd.ntmps58
      go_wp2_with (go_at_call 57; (with_reducible refine (copy_any w g _ _ (Nat.le_of_lt h1.lt) hhead (by rw [List.length_take]; omega)).mono ?_); rintro e w2 ⟨v2, rfl, ho2, hb2⟩
                   obtain ⟨d0, d1, e0, e1⟩ := two_cells (h1.below hb2 h1.lt))
      all_goals (try (exfalso; omega))
      go_ret
      obtain ⟨x1, x2⟩ := otake_end h1 hb2 hcut'
      exact ⟨_, rfl, ho2.set_ h1.lt, x1, x2⟩
end Go.Proofs.YteoidkjiigjlaaaDoor
