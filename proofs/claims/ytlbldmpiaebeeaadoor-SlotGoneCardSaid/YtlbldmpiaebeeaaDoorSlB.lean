/- Slots on a disk: New, Put, Get, Clear. -/
import Derived.Test.YtlbldmpiaebeeaaDoorSlA
namespace Go.Proofs.YtlbldmpiaebeeaaDoor
open Go Go.RowKit Go.Maps Go.MapKept Go.ChangeMaps

/-- What Put makes of a disk. -/
def Dk.slotPut (d : Dk) (a : Nat) (b : List UInt8) : Int × Dk := if d.there (a : Int) ≠ 0 then (d.there (a : Int), d) else if 249 < b.length then (3, d) else d.over2 a (secS 4 b)
/-- What Clear makes of a disk. -/
def Dk.slotClear (d : Dk) (a : Nat) : Int × Dk := if d.there (a : Int) ≠ 0 then (d.there (a : Int), d) else if d.at_ a = zerosS 256 then (0, d) else d.over2 a (zerosS 256)
set_option maxRecDepth 100000 in
theorem nil_isS (w : World) : Calls Tryd.prog 30 #[.pointer none] w fun e w' => e = .returned (.bool false) ∧ w = w' := by
  go_enter Tryd.func30, Tryd.ntmps30
  go_wp2
  go_ret
  exact ⟨rfl, rfl⟩
set_option maxRecDepth 100000 in
theorem nil_sizeS (w : World) : Calls Tryd.prog 22 #[.pointer none] w fun e w' => e = .returned (.int .i64 0) ∧ w = w' := by
  go_enter Tryd.func22, Tryd.ntmps22
  go_wp2_with (go_at_call 30; (with_reducible refine (nil_isS _).mono ?_); rintro e w1 ⟨rfl, rfl⟩)
  go_ret
  exact ⟨rfl, rfl⟩
section
variable {w w' : World} {K K' : Nat → Prop} {g gs gm n m h f c : Nat} {d : Dk}
theorem SlAt.gr (hs : SlAt w h g f c) (hg : Gr w w') : SlAt w' h g f c := Blk.below hs hg (Blk.lt hs)
theorem SlAt.but {S : Nat → Prop} (hs : SlAt w h g f c) (hb : But S w w') (hS : ¬ S h) : SlAt w' h g f c := hb.blk hs hS
set_option maxRecDepth 100000 in
theorem dk_size (hD : DkAt w K g gs gm n m d) : Calls Tryd.prog 22 #[.pointer (some ⟨g, 0, none⟩)] w fun e w' => e = .returned (.int .i64 (n : Int)) ∧ w = w' := by
  obtain ⟨c, a, _, _, hb⟩ := hD.top
  obtain ⟨⟨i0, i1, i2, i3, i4⟩, _⟩ := five_dk hb
  have cI := dk_is hD
  go_enter Tryd.func22, Tryd.ntmps22
  go_wp2_with (go_at_call 30; (with_reducible refine cI.mono ?_); rintro e w1 ⟨rfl, rfl⟩)
  go_ret
  exact ⟨rfl, rfl⟩
set_option maxRecDepth 100000 in
theorem new_sl (hD : DkAt w K g gs gm n m d) (f c : Nat) (z1 z2 : Int) (h1 : z1 = f) (h2 : z2 = c) (hn : 1 ≤ n) (hf : f ≤ n) (hc : c ≤ 16) (hfc : c ≤ n - f) : Calls Tryd.prog 8 #[.pointer (some ⟨g, 0, none⟩), .int .i64 z1, .int .i64 z2] w fun e w' => e = .returned (.tuple #[.pointer (some ⟨w.heap.size, 0, none⟩), .int .i64 0]) ∧ SlAt w' w.heap.size g f c ∧ Gr w w' := by
  subst h1 h2
  have cS := dk_size hD
  have hn2 := hD.len.2.2
  go_enter Tryd.func8, Tryd.ntmps8
  go_wp2_with (go_at_call 22; (with_reducible refine cS.mono ?_); rintro e w1 ⟨rfl, rfl⟩)
  all_goals (try (exfalso; omega))
  go_ret2
  exact ⟨rfl, Blk.new _ _ _, Gr.alloc _ _⟩
set_option maxRecDepth 100000 in
theorem new_sl_nil (w : World) (z1 z2 : Int) : Calls Tryd.prog 8 #[.pointer none, .int .i64 z1, .int .i64 z2] w fun e w' => e = .returned (.tuple #[.pointer none, .int .i64 9]) ∧ w = w' := by
  go_enter Tryd.func8, Tryd.ntmps8
  go_wp2_with (go_at_call 22; (with_reducible refine (nil_sizeS _).mono ?_); rintro e w1 ⟨rfl, rfl⟩)
  go_ret2
  exact ⟨rfl, rfl⟩
set_option maxRecDepth 100000 in
theorem put_out (hs : SlAt w h g f c) (i : Int) (v : Value) (hi : i < 0 ∨ (c : Int) ≤ i) : Calls Tryd.prog 12 #[.pointer (some ⟨h, 0, none⟩), .int .i64 i, v] w fun e w' => e = .returned (.int .i64 1) ∧ w = w' := by
  have cA := at_out hs i hi
  go_enter Tryd.func12, Tryd.ntmps12
  go_wp2_with (go_at_call 19; (with_reducible refine cA.mono ?_); rintro e w1 ⟨rfl, rfl⟩)
  go_ret
  exact ⟨rfl, rfl⟩
set_option maxRecDepth 100000 in
theorem put_nil (w : World) (i : Int) (v : Value) : Calls Tryd.prog 12 #[.pointer none, .int .i64 i, v] w fun e w' => e = .returned (.int .i64 9) ∧ w = w' := by
  have cA := at_nil w i
  go_enter Tryd.func12, Tryd.ntmps12
  go_wp2_with (go_at_call 19; (with_reducible refine cA.mono ?_); rintro e w1 ⟨rfl, rfl⟩)
  go_ret
  exact ⟨rfl, rfl⟩
set_option maxRecDepth 100000 in
theorem clear_nil (w : World) (i : Int) : Calls Tryd.prog 13 #[.pointer none, .int .i64 i] w fun e w' => e = .returned (.int .i64 9) ∧ w = w' := by
  have cA := at_nil w i
  go_enter Tryd.func13, Tryd.ntmps13
  go_wp2_with (go_at_call 19; (with_reducible refine cA.mono ?_); rintro e w1 ⟨rfl, rfl⟩)
  go_ret
  exact ⟨rfl, rfl⟩
set_option maxRecDepth 100000 in
theorem used_nil (w : World) : Calls Tryd.prog 7 #[.pointer none] w fun e w' => e = .returned (.tuple #[.slice none 0 0, .int .i64 9]) ∧ w = w' := by
  go_enter Tryd.func7, Tryd.ntmps7
  go_wp2
  go_ret2
  exact ⟨rfl, rfl⟩
set_option maxRecDepth 100000 in
set_option maxHeartbeats 2000000 in
theorem put_sl (hD : DkAt w K g gs gm n m d) (hs : SlAt w h g f c) (hh : ¬ DkS g gs gm h) (i : Nat) (hi : i < c) (hc : c ≤ 16) (hf : f ≤ 1024) (hl : (d.at_ (f + i)).length ≤ 1000000) (v : Value) (b : List UInt8) (hv : RdB w w.heap.size v b) (hm : m ≤ 1000000) :
    Calls Tryd.prog 12 #[.pointer (some ⟨h, 0, none⟩), .int .i64 (i : Int), v] w fun e w' => ∃ K' m', e = .returned (.int .i64 (d.slotPut (f + i) b).1) ∧ DkAt w' K' g gs gm n m' (d.slotPut (f + i) b).2 ∧ m' ≤ m + 1 ∧ But (DkS g gs gm) w w' := by
  have cA := at_s hD hs i hi hc hf hl
  obtain ⟨A, cc, rfl, hbc, _⟩ := id hv
  unfold Dk.slotPut
  by_cases hq : d.there ((f + i : Nat) : Int) = 0
  · rw [if_neg (fun h => h hq)]
    rw [hq] at cA
    by_cases hb : 249 < b.length
    · rw [if_pos hb]
      have cP := fun W => put_s_no W A b.length cc 4 4 rfl (by decide) hb
      go_enter Tryd.func12, Tryd.ntmps12
      go_wp2_with (first
        | (go_at_call 19; (with_reducible refine cA.mono ?_); rintro e w1 ⟨u, rfl, _, hg1⟩)
        | (go_at_call 26; (with_reducible refine (cP _).mono ?_); rintro e w2 ⟨rfl, rfl⟩))
      go_ret
      exact ⟨_, _, rfl, hD.gr hg1, Nat.le_succ _, But.of_gr _ hg1⟩
    · rw [if_neg hb]
      go_enter Tryd.func12, Tryd.ntmps12
      have efi : ((f + i : Nat) : Int) = (f : Int) + (i : Int) := by omega
      go_wp2_with (first
        | (go_at_call 19; (with_reducible refine cA.mono ?_); rintro e w1 ⟨u, rfl, _, hg1⟩
           have cP := put_s w1 (.slice A b.length cc) b 4 4 rfl (by decide) ((hv.gr (Nat.le_refl _) hg1).more hg1.size) (by omega))
        | (go_at_call 26; (with_reducible refine cP.mono ?_); rintro e w2 ⟨x, rfl, hx2, hg2⟩
           have hg12 := Gr.trans hg1 hg2
           have cO := over_s (hD.gr hg12) (hs.gr hg12) hh (f + i) x _ hq hx2.rdD (secS_len 4 b (by omega)) hm
           rw [efi] at cO)
        | (go_at_call 27; (with_reducible refine cO.mono ?_); rintro e w3 ⟨K3, m3, rfl, hD3, hm3, hb3⟩))
      go_ret
      exact ⟨_, _, rfl, hD3, hm3, (But.of_gr _ hg12).trans hb3⟩
  · rw [if_pos hq]
    generalize d.there ((f + i : Nat) : Int) = q at *
    go_enter Tryd.func12, Tryd.ntmps12
    go_wp2_with (go_at_call 19; (with_reducible refine cA.mono ?_); rintro e w1 ⟨u, rfl, _, hg1⟩)
    all_goals (try (exfalso; omega))
    go_ret
    exact ⟨_, _, rfl, hD.gr hg1, Nat.le_succ _, But.of_gr _ hg1⟩
set_option maxRecDepth 100000 in
set_option maxHeartbeats 2000000 in
theorem clear_sl (hD : DkAt w K g gs gm n m d) (hs : SlAt w h g f c) (hh : ¬ DkS g gs gm h) (i : Nat) (hi : i < c) (hc : c ≤ 16) (hf : f ≤ 1024) (hl : (d.at_ (f + i)).length ≤ 1000000) (hm : m ≤ 1000000) :
    Calls Tryd.prog 13 #[.pointer (some ⟨h, 0, none⟩), .int .i64 (i : Int)] w fun e w' => ∃ K' m', e = .returned (.int .i64 (d.slotClear (f + i)).1) ∧ DkAt w' K' g gs gm n m' (d.slotClear (f + i)).2 ∧ m' ≤ m + 1 ∧ But (DkS g gs gm) w w' := by
  have cA := at_s hD hs i hi hc hf hl
  unfold Dk.slotClear
  by_cases hq : d.there ((f + i : Nat) : Int) = 0
  · rw [if_neg (fun h => h hq)]
    rw [hq] at cA
    by_cases hz : d.at_ (f + i) = zerosS 256
    · rw [if_pos hz]
      rw [hz] at cA
      go_enter Tryd.func13, Tryd.ntmps13
      go_wp2_with (first
        | (go_at_call 19; (with_reducible refine cA.mono ?_); rintro e w1 ⟨u, rfl, hu, hg1⟩
           have cE := empty_s w1 u _ (hu.1 rfl).rdD
           rw [decide_eq_true (rfl : zerosS 256 = zerosS 256)] at cE)
        | (go_at_call 21; (with_reducible refine cE.mono ?_); rintro e w2 ⟨rfl, hg2⟩))
      go_ret
      exact ⟨_, _, rfl, hD.gr (Gr.trans hg1 hg2), Nat.le_succ _, But.of_gr _ (Gr.trans hg1 hg2)⟩
    · rw [if_neg hz]
      have dz : decide (d.at_ (f + i) = zerosS 256) = false := decide_eq_false hz
      go_enter Tryd.func13, Tryd.ntmps13
      have efi : ((f + i : Nat) : Int) = (f : Int) + (i : Int) := by omega
      go_wp2_with (first
        | (go_at_call 19; (with_reducible refine cA.mono ?_); rintro e w1 ⟨u, rfl, hu, hg1⟩
           have cE := empty_s w1 u _ (hu.1 rfl).rdD
           rw [dz] at cE)
        | (go_at_call 21; (with_reducible refine cE.mono ?_); rintro e w2 ⟨rfl, hg2⟩
           have cZ := zero_s w2)
        | (go_at_call 28; (with_reducible refine cZ.mono ?_); rintro e w3 ⟨rfl, hB3, hg3⟩
           have hg13 := Gr.trans hg1 (Gr.trans hg2 hg3)
           have cO := over_s (hD.gr hg13) (hs.gr hg13) hh (f + i) _ _ hq (rd_zeros hB3) (zerosS_len _) hm
           rw [efi] at cO)
        | (go_at_call 27; (with_reducible refine cO.mono ?_); rintro e w4 ⟨K3, m3, rfl, hD3, hm3, hb3⟩))
      go_ret
      exact ⟨_, _, rfl, hD3, hm3, (But.of_gr _ hg13).trans hb3⟩
  · rw [if_pos hq]
    generalize d.there ((f + i : Nat) : Int) = q at *
    go_enter Tryd.func13, Tryd.ntmps13
    go_wp2_with (go_at_call 19; (with_reducible refine cA.mono ?_); rintro e w1 ⟨u, rfl, _, hg1⟩)
    all_goals (try (exfalso; omega))
    go_ret
    exact ⟨_, _, rfl, hD.gr hg1, Nat.le_succ _, But.of_gr _ hg1⟩
set_option maxRecDepth 100000 in
theorem get_nil (w : World) (i : Int) : Calls Tryd.prog 6 #[.pointer none, .int .i64 i] w fun e w' => e = .returned (.tuple #[.slice none 0 0, .int .i64 9]) ∧ Gr w w' := by
  have cA := at_nil w i
  obtain ⟨E, hE, h0⟩ : ∃ E : Int, E = 9 ∧ E ≠ 0 := ⟨_, rfl, by decide⟩
  rw [← hE] at cA ⊢
  clear hE
  go_enter Tryd.func6, Tryd.ntmps6
  go_wp2
  refine wp_scope_label 0 (fun a' W => (∃ u0 u1 u2 u3 u4 u5 u6 u7 u8 u9 u11 u12 u13 u14 u15 u16 u17 u18 u19 u20 u21 u22 u23 u24 u25 u26 u27 u28 u29 u30 u31 u32 u33 u34 u35 : Value, a' = ⟨#[u0, u1, u2, u3, u4, u5, u6, u7, u8, u9, (.int .i64 E), u11, u12, u13, u14, u15, u16, u17, u18, u19, u20, u21, u22, u23, u24, u25, u26, u27, u28, u29, u30, u31, u32, u33, u34, u35], []⟩) ∧ Gr w W) (fun _ _ => 0) rfl ?_ ?_
  · rintro a' W ⟨⟨u0, u1, u2, u3, u4, u5, u6, u7, u8, u9, u11, u12, u13, u14, u15, u16, u17, u18, u19, u20, u21, u22, u23, u24, u25, u26, u27, u28, u29, u30, u31, u32, u33, u34, u35, rfl⟩, hg⟩
    go_wp2
    simp only [Exit.jump]
    exact bodyPost_ret (v := .tuple #[.slice none 0 0, .int .i64 E]) (by simp [results, Tryd.results6, go_sem]) rfl ⟨rfl, hg⟩
  · intro _
    go_wp2_with (go_at_call 19; (with_reducible refine cA.mono ?_); rintro e w1 ⟨rfl, rfl⟩)
    all_goals (try (exfalso; omega))
    go_step3
    exact ⟨rfl, ⟨_, _, _, _, _, _, _, _, _, _, _, _, _, _, _, _, _, _, _, _, _, _, _, _, _, _, _, _, _, _, _, _, _, _, _, rfl⟩, Gr.refl _⟩
/-- What is got of a sector that is none. -/
theorem get_bad (w : World) (v : Value) (l : List UInt8) (hr : RdB w w.heap.size v l) (hl : l.length = 256) (he : getE l ≠ 0) : Calls Tryd.prog 20 #[v] w fun e w' => e = .returned (.tuple #[.int .i64 0, .slice none 0 0, .int .i64 (getE l)]) ∧ Gr w w' := by
  unfold getE at he ⊢
  rw [if_neg (by omega)] at he ⊢
  by_cases hz : l = zerosS 256
  · rw [if_pos hz]
    subst hz
    exact get_zero w v hr
  · rw [if_neg hz] at he ⊢
    by_cases hs : soundS l
    · rw [if_pos hs] at he
      exact absurd rfl he
    · rw [if_neg hs]
      exact (get_s w v l hr hl hz).mono fun e w' h => ⟨h.2.1 hs, h.2.2⟩
theorem get_ok (w : World) (v : Value) (l : List UInt8) (hr : RdB w w.heap.size v l) (hl : l.length = 256) (he : getE l = 0) : Calls Tryd.prog 20 #[v] w fun e w' => (∃ x, e = .returned (.tuple #[.int .i64 ((l.getD 0 0).toNat : Int), x, .int .i64 0]) ∧ OwnB w' w.heap.size x (bodyS l)) ∧ Gr w w' := by
  unfold getE at he
  rw [if_neg (by omega)] at he
  by_cases hz : l = zerosS 256
  · rw [if_pos hz] at he
    cases he
  · rw [if_neg hz] at he
    by_cases hs : soundS l
    · exact (get_s w v l hr hl hz).mono fun e w' h => ⟨h.1 hs, h.2.2⟩
    · rw [if_neg hs] at he
      cases he
set_option maxRecDepth 100000 in
set_option maxHeartbeats 2000000 in
theorem get_sl_bad (hD : DkAt w K g gs gm n m d) (hs : SlAt w h g f c) (i : Nat) (hi : i < c) (hc : c ≤ 16) (hf : f ≤ 1024) (hq : d.there ((f + i : Nat) : Int) = 0) (hl : (d.at_ (f + i)).length = 256) (he : getE (d.at_ (f + i)) ≠ 0) :
    Calls Tryd.prog 6 #[.pointer (some ⟨h, 0, none⟩), .int .i64 (i : Int)] w fun e w' => e = .returned (.tuple #[.slice none 0 0, .int .i64 (getE (d.at_ (f + i)))]) ∧ Gr w w' := by
  have cA := at_s hD hs i hi hc hf (by omega)
  rw [hq] at cA
  have cG := fun W u (hu : RdB W W.heap.size u (d.at_ (f + i))) => get_bad W u _ hu hl he
  generalize getE (d.at_ (f + i)) = E at *
  go_enter Tryd.func6, Tryd.ntmps6
  go_wp2
  refine wp_scope_label 0 (fun a' W => (∃ u0 u1 u2 u3 u4 u5 u6 u7 u8 u9 u11 u12 u13 u14 u15 u16 u17 u18 u19 u20 u21 u22 u23 u24 u25 u26 u27 u28 u29 u30 u31 u32 u33 u34 u35 : Value, a' = ⟨#[u0, u1, u2, u3, u4, u5, u6, u7, u8, u9, (.int .i64 E), u11, u12, u13, u14, u15, u16, u17, u18, u19, u20, u21, u22, u23, u24, u25, u26, u27, u28, u29, u30, u31, u32, u33, u34, u35], []⟩) ∧ Gr w W) (fun _ _ => 0) rfl ?_ ?_
  · rintro a' W ⟨⟨u0, u1, u2, u3, u4, u5, u6, u7, u8, u9, u11, u12, u13, u14, u15, u16, u17, u18, u19, u20, u21, u22, u23, u24, u25, u26, u27, u28, u29, u30, u31, u32, u33, u34, u35, rfl⟩, hg⟩
    go_wp2
    simp only [Exit.jump]
    exact bodyPost_ret (v := .tuple #[.slice none 0 0, .int .i64 E]) (by simp [results, Tryd.results6, go_sem]) rfl ⟨rfl, hg⟩
  · intro _
    go_wp2_with (first
      | (go_at_call 19; (with_reducible refine cA.mono ?_); rintro e w1 ⟨u, rfl, hu, hg1⟩
         have cG1 := cG w1 u (hu.1 (by first | rfl | trivial)).rdD)
      | (go_at_call 20; (with_reducible refine cG1.mono ?_); rintro e w2 ⟨rfl, hg2⟩))
    all_goals (try (exfalso; omega))
    go_step3
    exact ⟨rfl, ⟨_, _, _, _, _, _, _, _, _, _, _, _, _, _, _, _, _, _, _, _, _, _, _, _, _, _, _, _, _, _, _, _, _, _, _, rfl⟩, Gr.trans hg1 hg2⟩
set_option maxRecDepth 100000 in
set_option maxHeartbeats 2000000 in
theorem get_sl_ok (hD : DkAt w K g gs gm n m d) (hs : SlAt w h g f c) (i : Nat) (hi : i < c) (hc : c ≤ 16) (hf : f ≤ 1024) (hq : d.there ((f + i : Nat) : Int) = 0) (hl : (d.at_ (f + i)).length = 256) (he : getE (d.at_ (f + i)) = 0) (hk : (d.at_ (f + i)).getD 0 0 = 4) :
    Calls Tryd.prog 6 #[.pointer (some ⟨h, 0, none⟩), .int .i64 (i : Int)] w fun e w' => (∃ x, e = .returned (.tuple #[x, .int .i64 0]) ∧ OwnB w' w.heap.size x (bodyS (d.at_ (f + i)))) ∧ Gr w w' := by
  have cA := at_s hD hs i hi hc hf (by omega)
  rw [hq] at cA
  have cG := fun W u (hu : RdB W W.heap.size u (d.at_ (f + i))) => get_ok W u _ hu hl he
  rw [hk, show ((4 : UInt8).toNat : Int) = 4 from rfl] at cG
  go_enter Tryd.func6, Tryd.ntmps6
  go_wp2
  refine wp_scope_label 0 (fun _ _ => False) (fun _ _ => 0) rfl (fun _ _ h => h.elim) ?_
  intro _
  go_wp2_with (first
    | (go_at_call 19; (with_reducible refine cA.mono ?_); rintro e w1 ⟨u, rfl, hu, hg1⟩
       have cG1 := cG w1 u (hu.1 (by first | rfl | trivial)).rdD)
    | (go_at_call 20; (with_reducible refine cG1.mono ?_); rintro e w2 ⟨⟨x, rfl, hx⟩, hg2⟩))
  simp only [Exit.jump]
  exact bodyPost_ret (v := .tuple #[x, .int .i64 0]) (by simp [results, Tryd.results6, go_sem]) rfl ⟨⟨_, rfl, hx.lower hg1.size⟩, Gr.trans hg1 hg2⟩
end
end Go.Proofs.YtlbldmpiaebeeaaDoor
