/- Readers of bytes: bytes.Clone, New, Take. -/
import Derived.Test.YteoidkjiigjlaaaDoorRd
namespace Go.Proofs.YteoidkjiigjlaaaDoor
open Go Go.RowKit

set_option maxRecDepth 100000 in
set_option maxHeartbeats 2000000 in
theorem clone_any (w : World) (B : Nat) (v : Value) (l : List UInt8) (hB : B ≤ w.heap.size) (hr : RdB w B v l) (hl : l.length ≤ 1073741824) : Calls Tryd.prog 74 #[v] w fun e w' => ∃ v, e = .returned v ∧ OwnB w' w.heap.size v l ∧ Gr w w' := by
  have hR := hr
  have q := fun (w : World) (a : Option Addr) (n c n' c' : Nat) => Lib.run_eql_slice_nil (P := Tryd.prog) w 25 _ a n c n' c' Tryd.underlying25
  obtain ⟨A, c, rfl, hc, hrr⟩ := hr
  rcases A with _ | ad
  · have h0 : l = [] := by
      rcases Nat.eq_zero_or_pos l.length with h0 | h0
      · exact List.eq_nil_of_length_eq_zero h0
      · obtain ⟨ad, h', _⟩ := hrr.2 h0
        cases h'
    subst h0
    go_enter Tryd.func74, Tryd.ntmps74
    go_wp2
    go_ret
    exact ⟨_, rfl, OwnB.nil _ _, Gr.refl _⟩
  · go_enter Tryd.func74, Tryd.ntmps74
    go_wp2_with (at_builtin
                 refine wpList_appendB _ rfl (.tmp 5) (.tmp 6) rfl w.heap.size _ [] rfl (OwnB.new w [] _ (Nat.le_refl _) (by simp [maxLen]) _ (by simp [bvs])) B _ l rfl (hR.gr hB (Gr.alloc _ _)) (by simp; omega) (by simp) ?_
                 intro v1 w1 ho1 hb1 _)
    go_ret
    exact ⟨_, rfl, by simpa using ho1, Below.trans (Gr.alloc _ _) hb1⟩
set_option maxRecDepth 100000 in
theorem new_any (w : World) (B : Nat) (v : Value) (l : List UInt8) (hB : B ≤ w.heap.size) (hr : RdB w B v l) (hl : l.length ≤ 1073741824) : Calls Tryd.prog 51 #[v] w fun e w' => ∃ g, e = .returned (.pointer (some ⟨g, 0, none⟩)) ∧ w.heap.size ≤ g ∧ RdrT w' g (false, l) ∧ Gr w w' := by
  go_enter Tryd.func51, Tryd.ntmps51
  go_wp2_with (go_at_call 74; (with_reducible refine (clone_any _ B v l hB hr hl).mono ?_); rintro e w1 ⟨v1, rfl, ho1, hb1⟩
               have hr1 := ho1.rd
               have hr2 := hr1
               obtain ⟨A1, c1, rfl, hc1, _⟩ := hr1)
  go_ret
  exact ⟨_, rfl, hb1.size, ⟨_, Blk.new w1 _ _, hr2.gr (Nat.le_refl _) (Gr.alloc _ _)⟩, Gr.new hb1 _⟩
theorem RdB.cut {w : World} {B n c : Nat} {A : Option Addr} {l : List UInt8} (h : Reads w B 1 A l.length (bvs l)) (hc : l.length ≤ c) (hn : n ≤ l.length) : RdB w B (.slice (if c = n then A else A.map (·.add n)) (l.length - n) (c - n)) (l.drop n) := by
  have h2 := h.cut hn hc
  simp only [Nat.mul_one] at h2
  refine ⟨_, c - n, by rw [List.length_drop], by rw [List.length_drop]; omega, ?_⟩
  rw [List.length_drop]
  simpa [bvs] using h2
theorem RdB.head {w : World} {B n : Nat} {A : Option Addr} {l : List UInt8} (h : Reads w B 1 A l.length (bvs l)) (hn : n ≤ l.length) : RdB w B (.slice A n n) (l.take n) := by
  have hl : (l.take n).length = n := by rw [List.length_take]; omega
  refine ⟨A, n, by rw [hl], by omega, ?_⟩
  rw [hl]
  refine ⟨by simp [bvs]; omega, fun h0 => ?_⟩
  obtain ⟨ad, e, hb, hcell⟩ := h.2 (by omega)
  refine ⟨ad, e, hb, fun j u hu => hcell j u ?_⟩
  simp only [bvs, List.map_take, List.getElem?_take] at hu
  split at hu
  · exact hu
  · cases hu
theorem take_end {w w2 : World} {g : Nat} {v0 V : Value} {l : List UInt8} (h1 : Blk w g 101 #[.bool true, .bool false, v0]) (hb2 : Gr (w.setCell ⟨g, 2, none⟩ V) w2) (hV : RdB w g V l) : RdrT w2 g (false, l) ∧ GrX w w2 g := by
  have hset : (w.setCell ⟨g, 2, none⟩ V).heap.size = w.heap.size := by simp [World.setCell]
  refine ⟨RdrT.gr ⟨V, by simpa using h1.set_ 2 V, ?_⟩ hb2, ?_⟩
  · obtain ⟨A, c, e, hc, hr⟩ := hV
    exact ⟨A, c, e, hc, hr.setCell (Nat.le_refl _) _⟩
  · refine World.grownBy.trans (GrX.set_ (World.grownBy.refl _ _) 2 V) (GrX.of_gr hb2 g)
set_option maxRecDepth 100000 in
set_option maxHeartbeats 2000000 in
theorem take_ok (w : World) (g n : Nat) (l : List UInt8) (h : RdrT w g (false, l)) (hn : n ≤ l.length) (hl : l.length ≤ 1073741824) : Calls Tryd.prog 52 #[.pointer (some ⟨g, 0, none⟩), .int .i64 n] w fun e w' => ∃ v, e = .returned v ∧ OwnB w' w.heap.size v (l.take n) ∧ RdrT w' g (false, l.drop n) ∧ GrX w w' g := by
  have H := Lib.hid (rok_any w g _ h)
  obtain ⟨v, h1, h2⟩ := h
  obtain ⟨c0, c1, c2, f0, f1, f2⟩ := three_cells h1
  obtain ⟨A, c, rfl, hc, hr⟩ := h2
  dsimp only at c1 c2 hr hc ⊢
  have hcut := Lib.hid (RdB.cut hr hc hn)
  have hhead := RdB.head hr hn
  have hset : ∀ v, (w.setCell ⟨g, 2, none⟩ v).heap.size = w.heap.size := fun v => by simp [World.setCell]
  have hrd : ∀ v, RdB (w.setCell ⟨g, 2, none⟩ v) g (.slice A n n) (l.take n) := fun v => by
    obtain ⟨A', c', e, hc', hr'⟩ := hhead
    exact ⟨A', c', e, hc', hr'.setCell (Nat.le_refl _) _⟩
  by_cases hcn : c = n
  · subst hcn
    have hcut' := hcut.out
    rw [if_pos rfl] at hcut'
    obtain rfl : c = l.length := by omega
    go_enter Tryd.func52, Tryd.ntmps52
    go_wp2_with (first
      | (go_at_call 53; (with_reducible refine (H.out).mono ?_); rintro e w1 ⟨rfl, rfl⟩)
      | (go_at_call 74; (with_reducible refine (clone_any _ g _ _ (by rw [hset]; exact Nat.le_of_lt h1.lt) (hrd _) (by rw [List.length_take]; omega)).mono ?_); rintro e w2 ⟨v2, rfl, ho2, hb2⟩))
    go_ret
    obtain ⟨x1, x2⟩ := take_end h1 hb2 (by simpa using hcut')
    exact ⟨_, rfl, ho2.lower (by rw [hset]; exact Nat.le_refl _), by simpa using x1, x2⟩
  · have hcut' := hcut.out
    rw [if_neg hcn] at hcut'
    go_enter Tryd.func52, Tryd.ntmps52
    go_wp2_with (first
      | (go_at_call 53; (with_reducible refine (H.out).mono ?_); rintro e w1 ⟨rfl, rfl⟩)
      | (go_at_call 74; (with_reducible refine (clone_any _ g _ _ (by rw [hset]; exact Nat.le_of_lt h1.lt) (hrd _) (by rw [List.length_take]; omega)).mono ?_); rintro e w2 ⟨v2, rfl, ho2, hb2⟩))
    all_goals (try (exfalso; omega))
    go_ret
    obtain ⟨x1, x2⟩ := take_end h1 hb2 (by simpa using hcut')
    exact ⟨_, rfl, ho2.lower (by rw [hset]; exact Nat.le_refl _), x1, x2⟩

/-- Where a reader does not take. -/
theorem take_no (w : World) (g : Nat) (n : Int) (s : Rs) (h : RdrT w g s) (hn : s.1 = true ∨ n < 0 ∨ (s.2.length : Int) < n) (hl : s.2.length ≤ 1073741824) : Calls Tryd.prog 52 #[.pointer (some ⟨g, 0, none⟩), .int .i64 n] w fun e w' => ∃ v, e = .returned v ∧ OwnB w' w.heap.size v [] ∧ RdrT w' g (true, s.2) ∧ GrX w w' g := by
  have H := Lib.hid (rok_any w g _ h)
  have HF := Lib.hid (rfail_any w g _ h)
  obtain ⟨f, l⟩ := s
  obtain ⟨v, h1, h2⟩ := h
  obtain ⟨c0, c1, c2, f0, f1, f2⟩ := three_cells h1
  obtain ⟨A, c, rfl, hc, hr⟩ := h2
  dsimp only at c1 c2 hr hc hn hl ⊢
  cases f
  · rcases (by simpa using hn : n < 0 ∨ (l.length : Int) < n) with h | h
    all_goals
      go_enter Tryd.func52, Tryd.ntmps52
      go_wp2_with (first
        | (go_at_call 53; (with_reducible refine (H.out).mono ?_); rintro e w1 ⟨rfl, rfl⟩)
        | (go_at_call 75; (with_reducible refine (HF.out).mono ?_); rintro e w1 ⟨⟨v1, rfl⟩, hr1, hx1⟩))
      all_goals (try (exfalso; omega))
      all_goals go_ret
      all_goals exact ⟨_, rfl, OwnB.nil _ _, hr1, hx1⟩
  · go_enter Tryd.func52, Tryd.ntmps52
    go_wp2_with (first
      | (go_at_call 53; (with_reducible refine (H.out).mono ?_); rintro e w1 ⟨rfl, rfl⟩)
      | (go_at_call 75; (with_reducible refine (HF.out).mono ?_); rintro e w1 ⟨⟨v1, rfl⟩, hr1, hx1⟩))
    go_ret
    exact ⟨_, rfl, OwnB.nil _ _, hr1, hx1⟩

theorem take_any (w : World) (g : Nat) (n : Int) (s : Rs) (h : RdrT w g s) (hl : s.2.length ≤ 1073741824) : Calls Tryd.prog 52 #[.pointer (some ⟨g, 0, none⟩), .int .i64 n] w fun e w' => ∃ v, e = .returned v ∧ OwnB w' w.heap.size v (takeD s n).1 ∧ RdrT w' g (takeD s n).2 ∧ GrX w w' g := by
  by_cases hn : s.1 = true ∨ n < 0 ∨ (s.2.length : Int) < n
  · rw [takeD, if_pos hn]
    exact take_no w g n s h hn hl
  · rw [takeD, if_neg hn]
    obtain ⟨f, l⟩ := s
    obtain rfl : f = false := by cases f <;> simp_all
    obtain ⟨k, rfl⟩ : ∃ k : Nat, n = k := ⟨n.toNat, by omega⟩
    rw [Int.toNat_natCast]
    exact take_ok w g k l h (by dsimp only at hn; omega) hl
end Go.Proofs.YteoidkjiigjlaaaDoor
