/- Slots on a disk: at, over. -/
import Derived.Test.YtlbldmpiaebeeaaDoorSeE
import Derived.Test.YtlbldmpiaebeeaaDoorDkY
namespace Go.Proofs.YtlbldmpiaebeeaaDoor
open Go Go.RowKit Go.Maps Go.MapKept Go.ChangeMaps

/-- Slots at block h: on the disk at block g, from one sector on, so many. -/
def SlAt (w : World) (h g f c : Nat) : Prop := Blk w h 56 #[.pointer (some ⟨g, 0, none⟩), .int .i64 (f : Int), .int .i64 (c : Int)]
section
variable {w w' : World} {K K' : Nat → Prop} {g gs gm n m h f c : Nat} {d : Dk}
theorem dk_read_any (hD : DkAt w K g gs gm n m d) (i : Nat) (hl : (d.at_ i).length ≤ 1000000) : Calls Tryd.prog 32 #[.pointer (some ⟨g, 0, none⟩), .int .i64 i] w fun e w' => ∃ u, e = .returned (.tuple #[u, .int .i64 (d.there i)]) ∧ ((d.there i = 0 → OwnB w' w.heap.size u (d.at_ i)) ∧ (d.there i ≠ 0 → u = .slice none 0 0)) ∧ Gr w w' := by
  by_cases hi : d.there i = 0
  · rw [hi]
    exact (dk_read hD i hi hl).mono fun e w' ⟨u, h1, h2, h3⟩ => ⟨u, h1, ⟨fun _ => h2, fun h => absurd rfl h⟩, h3⟩
  · exact (dk_read_no hD i hi).mono fun e w' ⟨h1, h2⟩ => ⟨_, h1, ⟨fun h => absurd h hi, fun _ => rfl⟩, h2 ▸ Gr.refl _⟩
theorem three_sl (hs : SlAt w h g f c) : w.cell? ⟨h, 0, none⟩ = some (.pointer (some ⟨g, 0, none⟩)) ∧ w.cell? ⟨h, 1, none⟩ = some (.int .i64 (f : Int)) ∧ w.cell? ⟨h, 2, none⟩ = some (.int .i64 (c : Int)) := ⟨hs.cell 0, hs.cell 1, hs.cell 2⟩
set_option maxRecDepth 100000 in
theorem at_out (hs : SlAt w h g f c) (i : Int) (hi : i < 0 ∨ (c : Int) ≤ i) : Calls Tryd.prog 19 #[.pointer (some ⟨h, 0, none⟩), .int .i64 i] w fun e w' => e = .returned (.tuple #[.int .i64 0, .slice none 0 0, .int .i64 1]) ∧ w = w' := by
  obtain ⟨c0, c1, c2⟩ := three_sl hs
  rcases (by omega : i < 0 ∨ (0 ≤ i ∧ (c : Int) ≤ i)) with hi | ⟨hi, hi2⟩
  all_goals
    go_enter Tryd.func19, Tryd.ntmps19
    go_wp2
    all_goals (try (exfalso; omega))
    go_ret3
    exact ⟨rfl, rfl⟩
set_option maxRecDepth 100000 in
theorem at_nil (w : World) (i : Int) : Calls Tryd.prog 19 #[.pointer none, .int .i64 i] w fun e w' => e = .returned (.tuple #[.int .i64 0, .slice none 0 0, .int .i64 9]) ∧ w = w' := by
  go_enter Tryd.func19, Tryd.ntmps19
  go_wp2
  go_ret3
  exact ⟨rfl, rfl⟩
set_option maxRecDepth 100000 in
set_option maxHeartbeats 4000000 in
theorem at_s (hD : DkAt w K g gs gm n m d) (hs : SlAt w h g f c) (i : Nat) (hi : i < c) (hc : c ≤ 16) (hf : f ≤ 1024) (hl : (d.at_ (f + i)).length ≤ 1000000) : Calls Tryd.prog 19 #[.pointer (some ⟨h, 0, none⟩), .int .i64 (i : Int)] w fun e w' => ∃ u, e = .returned (.tuple #[.int .i64 ((f : Int) + (i : Int)), u, .int .i64 (d.there ((f + i : Nat) : Int))]) ∧ ((d.there ((f + i : Nat) : Int) = 0 → OwnB w' w.heap.size u (d.at_ (f + i))) ∧ (d.there ((f + i : Nat) : Int) ≠ 0 → u = .slice none 0 0)) ∧ Gr w w' := by
  obtain ⟨c0, c1, c2⟩ := three_sl hs
  have hhs := hs.lt
  have cR : ∀ W, Gr w W → Calls Tryd.prog 32 #[.pointer (some ⟨g, 0, none⟩), .int .i64 ((f : Int) + (i : Int))] W fun e w' => ∃ u, e = .returned (.tuple #[u, .int .i64 (d.there ((f + i : Nat) : Int))]) ∧ ((d.there ((f + i : Nat) : Int) = 0 → OwnB w' W.heap.size u (d.at_ (f + i))) ∧ (d.there ((f + i : Nat) : Int) ≠ 0 → u = .slice none 0 0)) ∧ Gr W w' := fun W hg => by
    rw [show (f : Int) + (i : Int) = ((f + i : Nat) : Int) by omega]
    exact dk_read_any (hD.gr hg) (f + i) hl
  generalize hq : d.there ((f + i : Nat) : Int) = q at *
  have d1 : decide ((i : Int) < 0) = false := decide_eq_false (by omega)
  have d2 : decide ((c : Int) ≤ (i : Int)) = false := decide_eq_false (by omega)
  have d3 : decide (c ≤ i) = false := decide_eq_false (by omega)
  go_enter Tryd.func19, Tryd.ntmps19
  go_wp2
  let fT : Fact := ⟨fun u W => ∃ x, u = .tuple #[x, .int .i64 q] ∧ (q = 0 → OwnB W w.heap.size x (d.at_ (f + i))) ∧ (q ≠ 0 → x = .slice none 0 0), fun u W W' ⟨x, e, h1, h2⟩ hg => ⟨x, e, fun h => (h1 h).gr hg, h2⟩⟩
  let fU : Fact := ⟨fun x W => (q = 0 → OwnB W w.heap.size x (d.at_ (f + i))) ∧ (q ≠ 0 → x = .slice none 0 0), fun x W W' ⟨h1, h2⟩ hg => ⟨fun h => (h1 h).gr hg, h2⟩⟩
  refine wp_region_facts [.is (.pointer (some ⟨h, 0, none⟩)), .is (.pointer (some ⟨h, 0, none⟩)), .is (.pointer (some ⟨h, 0, none⟩)), .is (.pointer (some ⟨g, 0, none⟩)), .is (.pointer (some ⟨h, 0, none⟩)), .is (.pointer (some ⟨h, 0, none⟩)), .is (.pointer (some ⟨h, 1, none⟩)), .is (.int .i64 (f : Int)), .is (.int .i64 (i : Int)), .is (.int .i64 ((f : Int) + (i : Int))), fT, fT, fU, .is (.int .i64 q), fU, .is (.int .i64 q)]
    (fun W => Gr w W) noS noSI w.heap.size (by kernel_rfl) rfl (by kernel_rfl) (by kernel_rfl) (Nat.le_refl _) (Gr.drew _) (fun vals => by simp [fillA, dstsOf, go_sem]; rfl) ?_ ?_
  · intro q hqn
    replace hqn : q < 16 := hqn
    have hI : ∀ W W', Gr w W → Gr W W' → Gr w W' := fun W W' hp hg => Gr.trans hp hg
    rcases (by omega : q = 0 ∨ q = 1 ∨ q = 2 ∨ q = 3 ∨ q = 4 ∨ q = 5 ∨ q = 6 ∨ q = 7 ∨ q = 8 ∨ q = 9 ∨ q = 10 ∨ q = 11 ∨ q = 12 ∨ q = 13 ∨ q = 14 ∨ q = 15) with rfl | rfl | rfl | rfl | rfl | rfl | rfl | rfl | rfl | rfl | rfl | rfl | rfl | rfl | rfl | rfl
    · refine step_g 0 [] _ _ rfl rfl hI (by kernel_rfl) fun vals W hb_ hB_ hIw hd => ?_
      go_wp2
      exact ⟨rfl, _, rfl, Gr.refl _, rfl⟩
    · refine step_g 1 [0] _ _ rfl rfl hI (by kernel_rfl) fun vals W hb_ hB_ hIw hd => ?_
      have e0 : vals 0 = _ := hd 0 (by simp) _ rfl
      rw [e0]
      go_wp2
      exact ⟨rfl, _, rfl, Gr.refl _, rfl⟩
    · refine step_g 2 [1] _ _ rfl rfl hI (by kernel_rfl) fun vals W hb_ hB_ hIw hd => ?_
      have e1 : vals 1 = _ := hd 1 (by simp) _ rfl
      rw [e1]
      go_wp2
      exact ⟨rfl, _, rfl, Gr.refl _, rfl⟩
    · refine step_g 3 [2] _ _ rfl rfl hI (by kernel_rfl) fun vals W hb_ hB_ hIw hd => ?_
      have e2 : vals 2 = _ := hd 2 (by simp) _ rfl
      rw [e2]
      have hq0 := ((hIw (by kernel_rfl)).cell (p := ⟨h, 0, none⟩) hhs).trans c0
      go_wp2
      exact ⟨rfl, _, rfl, Gr.refl _, rfl⟩
    · refine step_g 4 [] _ _ rfl rfl hI (by kernel_rfl) fun vals W hb_ hB_ hIw hd => ?_
      go_wp2
      exact ⟨rfl, _, rfl, Gr.refl _, rfl⟩
    · refine step_g 5 [4] _ _ rfl rfl hI (by kernel_rfl) fun vals W hb_ hB_ hIw hd => ?_
      have e4 : vals 4 = _ := hd 4 (by simp) _ rfl
      rw [e4]
      go_wp2
      exact ⟨rfl, _, rfl, Gr.refl _, rfl⟩
    · refine step_g 6 [5] _ _ rfl rfl hI (by kernel_rfl) fun vals W hb_ hB_ hIw hd => ?_
      have e5 : vals 5 = _ := hd 5 (by simp) _ rfl
      rw [e5]
      go_wp2
      exact ⟨rfl, _, rfl, Gr.refl _, rfl⟩
    · refine step_g 7 [6] _ _ rfl rfl hI (by kernel_rfl) fun vals W hb_ hB_ hIw hd => ?_
      have e6 : vals 6 = _ := hd 6 (by simp) _ rfl
      rw [e6]
      have hq1 := ((hIw (by kernel_rfl)).cell (p := ⟨h, 1, none⟩) hhs).trans c1
      go_wp2
      exact ⟨rfl, _, rfl, Gr.refl _, rfl⟩
    · refine step_g 8 [] _ _ rfl rfl hI (by kernel_rfl) fun vals W hb_ hB_ hIw hd => ?_
      go_wp2
      exact ⟨rfl, _, rfl, Gr.refl _, rfl⟩
    · refine step_g 9 [7, 8] _ _ rfl rfl hI (by kernel_rfl) fun vals W hb_ hB_ hIw hd => ?_
      have e7 : vals 7 = _ := hd 7 (by simp) _ rfl
      have e8 : vals 8 = _ := hd 8 (by simp) _ rfl
      rw [e7, e8]
      go_wp2
      exact ⟨rfl, _, rfl, Gr.refl _, rfl⟩
    · refine step_g 10 [3, 9] _ _ rfl rfl hI (by kernel_rfl) fun vals W hb_ hB_ hIw hd => ?_
      have e3 : vals 3 = _ := hd 3 (by simp) _ rfl
      have e9 : vals 9 = _ := hd 9 (by simp) _ rfl
      rw [e3, e9]
      have hgW := hIw (by kernel_rfl)
      have cRW := cR W hgW
      go_wp2_with (go_at_call 32; (with_reducible refine cRW.mono ?_); rintro e w2 ⟨u, rfl, hx, hg⟩)
      exact ⟨rfl, _, rfl, hg, u, rfl, fun h => (hx.1 h).lower hgW.size, hx.2⟩
    · refine step_g 11 [10] _ _ rfl rfl hI (by kernel_rfl) fun vals W hb_ hB_ hIw hd => ?_
      obtain ⟨x10, e10, hx10⟩ := (show ∃ x, vals 10 = .tuple #[x, .int .i64 q] ∧ (q = 0 → OwnB W w.heap.size x (d.at_ (f + i))) ∧ (q ≠ 0 → x = .slice none 0 0) from hd 10 (by simp) _ rfl)
      rw [e10]
      go_wp2
      exact ⟨rfl, _, rfl, Gr.refl _, x10, rfl, hx10⟩
    · refine step_g 12 [11] _ _ rfl rfl hI (by kernel_rfl) fun vals W hb_ hB_ hIw hd => ?_
      obtain ⟨x11, e11, hx11⟩ := (show ∃ x, vals 11 = .tuple #[x, .int .i64 q] ∧ (q = 0 → OwnB W w.heap.size x (d.at_ (f + i))) ∧ (q ≠ 0 → x = .slice none 0 0) from hd 11 (by simp) _ rfl)
      rw [e11]
      go_wp2
      exact ⟨rfl, _, rfl, Gr.refl _, hx11⟩
    · refine step_g 13 [11] _ _ rfl rfl hI (by kernel_rfl) fun vals W hb_ hB_ hIw hd => ?_
      obtain ⟨x11, e11, hx11⟩ := (show ∃ x, vals 11 = .tuple #[x, .int .i64 q] ∧ (q = 0 → OwnB W w.heap.size x (d.at_ (f + i))) ∧ (q ≠ 0 → x = .slice none 0 0) from hd 11 (by simp) _ rfl)
      rw [e11]
      go_wp2
      exact ⟨rfl, _, rfl, Gr.refl _, rfl⟩
    · refine step_g 14 [12] _ _ rfl rfl hI (by kernel_rfl) fun vals W hb_ hB_ hIw hd => ?_
      have hx12 : (q = 0 → OwnB W w.heap.size (vals 12) (d.at_ (f + i))) ∧ (q ≠ 0 → vals 12 = .slice none 0 0) := hd 12 (by simp) _ rfl
      go_wp2
      exact ⟨rfl, _, rfl, Gr.refl _, hx12⟩
    · refine step_g 15 [13] _ _ rfl rfl hI (by kernel_rfl) fun vals W hb_ hB_ hIw hd => ?_
      have e13 : vals 13 = _ := hd 13 (by simp) _ rfl
      rw [e13]
      go_wp2
      exact ⟨rfl, _, rfl, Gr.refl _, rfl⟩
  · intro vals W1 hb1 hfs
    have hg1 : Gr w W1 := hb1
    have hx14 : (q = 0 → OwnB W1 w.heap.size (vals 14) (d.at_ (f + i))) ∧ (q ≠ 0 → vals 14 = .slice none 0 0) := hfs 14 _ rfl (fun k hk => rfl)
    have e15 : vals 15 = _ := hfs 15 _ rfl (fun k hk => rfl)
    have hq1 := (hg1.cell (p := ⟨h, 1, none⟩) hhs).trans c1
    rw [e15]
    go_wp2
    go_ret3
    exact ⟨_, rfl, hx14, hg1⟩
set_option maxRecDepth 100000 in
theorem over_s (hD : DkAt w K g gs gm n m d) (hs : SlAt w h g f c) (hh : ¬ DkS g gs gm h) (i : Nat) (v : Value) (l : List UInt8) (hi : d.there i = 0) (hv : RdB w w.heap.size v l) (hl : l.length = 256) (hm : m ≤ 1000000) :
    Calls Tryd.prog 27 #[.pointer (some ⟨h, 0, none⟩), .int .i64 (i : Int), v] w fun e w' => ∃ K' m', e = .returned (.int .i64 (d.over2 i l).1) ∧ DkAt w' K' g gs gm n m' (d.over2 i l).2 ∧ m' ≤ m + 1 ∧ But (DkS g gs gm) w w' := by
  obtain ⟨c0, c1, c2⟩ := three_sl hs
  have hhs := hs.lt
  have cW := dk_write hD i v l hi hv hl hm
  have ew : d.write i l = (0, (d.put i l).did) := by
    unfold Dk.write
    rw [hi]
    simp only [ne_eq, not_true, if_false, hl, Int.toNat_natCast]
  have eo : d.over2 i l = (d.put i l).did.flush := by
    unfold Dk.over2
    rw [ew]
    simp only [ne_eq, not_true, if_false]
  rw [eo]
  generalize (d.put i l).did = d1 at *
  unfold Dk.flush
  obtain ⟨A, cc, rfl, _⟩ := hv
  rw [hl] at cW ⊢
  clear hl ew eo
  cases hd : d1.dead
  · simp only [Bool.false_eq_true, if_false]
    go_enter Tryd.func27, Tryd.ntmps27
    go_wp2_with (first
      | (go_at_call 10; (with_reducible refine cW.mono ?_); rintro e w1 ⟨rfl, hD1, hb1⟩
         have c01 := (hb1.cell (p := ⟨h, 0, none⟩) hhs hh).trans c0
         have cF := dk_flush hD1 hd)
      | (go_at_call 37; (with_reducible refine cF.mono ?_); rintro e w2 ⟨rfl, hD2, hb2⟩))
    go_ret
    exact ⟨_, _, rfl, hD2, Nat.zero_le _, hb1.trans hb2⟩
  · simp only [if_true]
    go_enter Tryd.func27, Tryd.ntmps27
    go_wp2_with (first
      | (go_at_call 10; (with_reducible refine cW.mono ?_); rintro e w1 ⟨rfl, hD1, hb1⟩
         have c01 := (hb1.cell (p := ⟨h, 0, none⟩) hhs hh).trans c0
         have cF := dk_flush_dead hD1 hd)
      | (go_at_call 37; (with_reducible refine cF.mono ?_); rintro e w2 ⟨rfl, rfl⟩))
    go_ret
    exact ⟨_, _, rfl, hD1, Nat.le_refl _, hb1⟩
end
end Go.Proofs.YtlbldmpiaebeeaaDoor
