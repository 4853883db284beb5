/- The law GenScripts: its walk. -/
import Derived.Test.YteoidkjiigjlaaaDoorGenU
import Derived.Test.YteoidkjiigjlaaaDoorFactsV
namespace Go.Proofs.YteoidkjiigjlaaaDoor
open Go Go.RowKit Go.Sort

/-- The script of whatever number. -/
def scrA (seed n : Int) : List Cm := if 0 ≤ n ∧ n ≤ 180 then scrL seed n.toNat else []
theorem scrA_data (seed n : Int) : ∀ x ∈ scrA seed n, x.data.length ≤ 1000 := by
  intro x hx
  unfold scrA at hx
  split at hx
  · exact scrL_data _ _ _ hx
  · cases hx
theorem scrA_len (seed n : Int) : (scrA seed n).length ≤ 1000 := by
  unfold scrA
  split
  · rename_i h; rw [scrL_len]; omega
  · exact Nat.zero_le _
theorem gscript_all (w : World) (hP : Pow w) (seed n : Int) (hs : IsS seed) : Calls Tryd.prog 27 #[.int .u64 seed, .int .i64 n] w fun e w' => ∃ v, e = .returned v ∧ RdCms w' (· < w'.heap.size) v (scrA seed n) ∧ Gr w w' := by
  unfold scrA
  by_cases h : 0 ≤ n ∧ n ≤ 180
  · rw [if_pos h]
    exact (gscript_any w hP seed n hs h.1 h.2).mono fun _ _ ⟨v, e, hr, hg⟩ => ⟨v, e, hr.mono fun _ hb => hb.2, hg⟩
  · rw [if_neg h]
    exact (gscript_no w seed n (by omega)).mono fun _ w' ⟨e, hw⟩ => ⟨_, e, RdCms.nil _ _, hw ▸ Gr.refl _⟩
theorem rscript_all (w : World) (seed n : Int) (hs : IsS seed) : Calls Tryd.prog 28 #[.int .u64 seed, .int .i64 n] w fun e w' => ∃ v, e = .returned v ∧ RdCms w' (· < w'.heap.size) v (scrA seed n) ∧ Gr w w' := by
  unfold scrA
  by_cases h : 0 ≤ n ∧ n ≤ 180
  · rw [if_pos h]
    exact (rscript_any w seed n hs h.1 h.2).mono fun _ _ ⟨v, e, hr, hg⟩ => ⟨v, e, hr.mono fun _ hb => hb.2, hg⟩
  · rw [if_neg h]
    exact (rscript_no w seed n (by omega)).mono fun _ w' ⟨e, hw⟩ => ⟨_, e, RdCms.nil _ _, hw ▸ Gr.refl _⟩
theorem gscript_lit (w : World) (hP : Pow w) (k : Nat) (n : Int) (hn : n = k) (hk : k ≤ 180) : Calls Tryd.prog 27 #[.int .u64 1, .int .i64 n] w fun e w' => ∃ A c, e = .returned (.slice A k c) ∧ Gr w w' := by
  subst hn
  refine (gscript_any w hP 1 k ⟨by omega, by omega⟩ (by omega) (by omega)).mono ?_
  rintro e w' ⟨v, rfl, ⟨A, c, cs, rfl, _⟩, hg⟩
  refine ⟨A, c, ?_, hg⟩
  rw [scrL_len, Int.toNat_natCast]
set_option maxRecDepth 100000 in
theorem glive_any (w : World) (hP : Pow w) : Calls Tryd.prog 22 #[] w fun e w' => e = .returned (.bool true) ∧ Gr w w' := by
  have HP := Lib.hid hP
  clear hP
  go_enter Tryd.func22, Tryd.ntmps22
  go_wp2_with (first
    | (go_at_call 27; (with_reducible refine (gscript_lit w HP.out 0 0 rfl (by omega)).mono ?_); rintro e w1 ⟨A1, c1, rfl, hg1⟩)
    | (go_at_call 27; (with_reducible refine (gscript_lit w1 (HP.out.below hg1) 2 2 rfl (by omega)).mono ?_); rintro e w2 ⟨A2, c2, rfl, hg2⟩))
  go_ret
  exact ⟨rfl, Gr.trans hg1 hg2⟩
set_option maxRecDepth 100000 in
theorem below_nil (w : World) (n : Int) : Calls Tryd.prog 24 #[.pointer none, .int .i64 n] w fun e w' => e = .returned (.int .i64 0) ∧ w = w' := by
  go_enter Tryd.func24, Tryd.ntmps24
  go_wp2
  go_ret
  exact ⟨rfl, rfl⟩
set_option maxRecDepth 100000 in
theorem below_unmade (w : World) (g : Nat) (n s : Int) (h : Blk w g 51 #[.bool false, .int .u64 s]) : Calls Tryd.prog 24 #[.pointer (some ⟨g, 0, none⟩), .int .i64 n] w fun e w' => e = .returned (.int .i64 0) ∧ w = w' := by
  obtain ⟨c0, c1, f0, f1⟩ := two_cells_ h
  go_enter Tryd.func24, Tryd.ntmps24
  go_wp2
  go_ret
  exact ⟨rfl, rfl⟩
/-- The state behind some throws. -/
def thr (l : List Int) (s : Int) : Int := l.foldl (fun s n => belowS n s) s
theorem thr_next (zs : List Int) (s : Int) (k : Nat) (z : Int) (h : zs[k]? = some z) : thr (zs.take (k + 1)) s = belowS z (thr (zs.take k) s) := by
  have : zs.take (k + 1) = zs.take k ++ [z] := by rw [List.take_add_one, h]; rfl
  rw [thr, this, List.foldl_append]
  rfl
theorem DiceP.gr {w w' : World} {g : Nat} {s : Int} (h : DiceP w g s) (hg : Gr w w') : DiceP w' g s := ⟨h.1.below hg h.1.lt, h.2⟩
theorem DiceR.gr {w w' : World} {g : Nat} {s : Int} (h : DiceR w g s) (hg : Gr w w') : DiceR w' g s := ⟨h.1.below hg h.1.lt, h.2⟩
theorem DiceP.x {w w' : World} {g g' : Nat} {s : Int} (h : DiceP w g s) (hx : GrX w w' g') (hn : g ≠ g') : DiceP w' g s := ⟨h.1.grown hx (by intro e; injection e with e; exact hn e), h.2⟩
theorem DiceR.x {w w' : World} {g g' : Nat} {s : Int} (h : DiceR w g s) (hx : GrX w w' g') (hn : g ≠ g') : DiceR w' g s := ⟨h.1.grown hx (by intro e; injection e with e; exact hn e), h.2⟩
set_option maxRecDepth 100000 in
set_option maxHeartbeats 4000000 in
theorem law_genscripts (seed n : Int) (A : Option Addr) (N c : Nat) (zs : List Int) (w : World) (hP : Pow w) (hs : IsS seed) (hN : N ≤ c) (hlen : zs.length = N) (hzs : ∀ z ∈ zs, z ≤ 9223372036854775807)
    (hcell : 0 < N → ∃ ad, A = some ad ∧ ad.block < w.heap.size ∧ ∀ k z, zs[k]? = some z → w.cell? (ad.add k) = some (.int .i64 z)) :
    Calls Tryd.prog 6 #[.int .u64 seed, .int .i64 n, .slice A N c] w fun e w' => e = .returned (.bool true) ∧ Gr w w' := by
  have HP := Lib.hid hP
  clear hP
  have HLN := Lib.hid hlen
  clear hlen
  by_cases h60 : N ≤ 60
  · go_enter Tryd.func6, Tryd.ntmps6
    go_wp2_with (go_at_call 23; (with_reducible refine (gnew_any _ _).mono ?_); rintro e w1 ⟨rfl, rfl⟩)
    go_loopw [9] (fun v9 wr => ∃ k : Nat, v9 = .int .i64 k ∧ k ≤ N ∧ Gr w wr ∧ DiceP wr w.heap.size (thr (zs.take k) seed) ∧ DiceR wr (w.heap.size + 1) (thr (zs.take k) seed)) (fun v9 _ => N - (intOf v9).toNat)
    case atStart =>
      refine ⟨0, rfl, Nat.zero_le _, Gr.trans (Gr.alloc _ _) (Gr.alloc _ _), ⟨(Blk.new w 51 _).alloc _, hs⟩, ?_, hs⟩
      have hB := Blk.new (w.alloc (.cells #[.bool true, .int .u64 seed] 51)) 48 #[.int .u64 seed]
      rw [show (w.alloc (.cells #[.bool true, .int .u64 seed] 51)).heap.size = w.heap.size + 1 by simp] at hB
      exact hB
    case round =>
      obtain ⟨k, rfl, hk, hg, hd1, hd2⟩ := hrel
      by_cases hlt : k < N
      · obtain ⟨z, hz⟩ : ∃ z, zs[k]? = some z := ⟨_, List.getElem?_eq_getElem (by rw [HLN.out]; exact hlt)⟩
        obtain ⟨ad, rfl, hadlt, hcz⟩ := hcell (by omega)
        have hc1 := hcz k z hz
        have hzl := hzs z (List.mem_of_getElem? hz)
        have HT := Lib.hid (thr_next zs seed k z hz)
        generalize thr (zs.take k) seed = s at *
        clear hz hcz
        go_wp2
        have hc2 : wr.cell? (ad.add k) = some (.int .i64 z) := (hg.cell (by rw [block_of_add]; exact hadlt)).trans hc1
        have hadb : (ad.add k).block < w.heap.size := by rw [block_of_add]; exact hadlt
        refine wp_region_factsV [.at_ 0 (.is (.pointer (some ⟨w.heap.size, 0, none⟩))), .at_ 1 (.is (.slice (some ad) N c)), .at_ 2 (.is (.int .i64 (k : Int))), .at_ 3 (.is (.pointer (some (ad.add k)))), .at_ 4 (.is (.int .i64 z)),
            .at_ 5 ⟨fun v W => v = .int .i64 (belowN z s) ∧ DiceP W w.heap.size (belowS z s), fun _ _ _ h hg => ⟨h.1, h.2.gr hg⟩⟩,
            .at_ 6 (.is (.pointer (some ⟨w.heap.size + 1, 0, none⟩))), .at_ 7 (.is (.slice (some ad) N c)), .at_ 8 (.is (.int .i64 (k : Int))), .at_ 9 (.is (.pointer (some (ad.add k)))), .at_ 10 (.is (.int .i64 z)),
            .at_ 11 ⟨fun v W => v = .int .i64 (belowN z s) ∧ DiceR W (w.heap.size + 1) (belowS z s), fun _ _ _ h hg => ⟨h.1, h.2.gr hg⟩⟩, .at_ 12 (.is (.bool false))]
            (fun n W => (match n with | 0 => W.cell? (ad.add k) = some (Value.int .i64 z) ∧ w.heap.size ≤ W.heap.size | 1 => DiceP W w.heap.size s | 2 => DiceR W (w.heap.size + 1) s | _ => True))
            (fun _ _ => false) (fun i n => (i == 5 && n == 1) || (i == 11 && n == 2)) w.heap.size (by kernel_rfl) rfl (by kernel_rfl) (by kernel_rfl) (by kernel_rfl) hg.size
            (fun n => by
              match n with
              | 0 => exact ⟨hc2, hg.size⟩
              | 1 => exact hd1.gr (Gr.drew _)
              | 2 => exact hd2.gr (Gr.drew _)
              | n + 3 => trivial) (fun vals => by simp [fillA, dstsOf, go_sem]; rfl) ?_ ?_
        · intro i hi
          replace hi : i < 13 := hi
          have hI : ∀ (n : Nat) (W W' : World), (match n with | 0 => W.cell? (ad.add k) = some (Value.int .i64 z) ∧ w.heap.size ≤ W.heap.size | 1 => DiceP W w.heap.size s | 2 => DiceR W (w.heap.size + 1) s | _ => True) → Gr W W' → (match n with | 0 => W'.cell? (ad.add k) = some (Value.int .i64 z) ∧ w.heap.size ≤ W'.heap.size | 1 => DiceP W' w.heap.size s | 2 => DiceR W' (w.heap.size + 1) s | _ => True) := by
            intro n W W' h hg
            match n, h with
            | 0, h => exact ⟨(hg.cell (by have := h.2; omega)).trans h.1, Nat.le_trans h.2 hg.size⟩
            | 1, h => exact DiceP.gr h hg
            | 2, h => exact DiceR.gr h hg
            | n + 3, _ => trivial
          rcases (by omega : i = 0 ∨ i = 1 ∨ i = 2 ∨ i = 3 ∨ i = 4 ∨ i = 5 ∨ i = 6 ∨ i = 7 ∨ i = 8 ∨ i = 9 ∨ i = 10 ∨ i = 11 ∨ i = 12) with rfl | rfl | rfl | rfl | rfl | rfl | rfl | rfl | rfl | rfl | rfl | rfl | rfl
          · refine step_gV 0 [] _ _ rfl rfl hI (by kernel_rfl) fun vals W hb hB hIw hd => ?_
            go_wp2
            exact ⟨rfl, _, rfl, Gr.refl _, rfl⟩
          · refine step_gV 1 [] _ _ rfl rfl hI (by kernel_rfl) fun vals W hb hB hIw hd => ?_
            go_wp2
            exact ⟨rfl, _, rfl, Gr.refl _, rfl⟩
          · refine step_gV 2 [] _ _ rfl rfl hI (by kernel_rfl) fun vals W hb hB hIw hd => ?_
            go_wp2
            exact ⟨rfl, _, rfl, Gr.refl _, rfl⟩
          · refine step_gV 3 [1, 2] _ _ rfl rfl hI (by kernel_rfl) fun vals W hb hB hIw hd => ?_
            have h1 : vals 1 = _ := hd 1 (by simp) _ rfl
            have h2 : vals 2 = _ := hd 2 (by simp) _ rfl
            rw [h1, h2]
            go_wp2
            exact ⟨rfl, _, rfl, Gr.refl _, rfl⟩
          · refine step_gV 4 [3] _ _ rfl rfl hI (by kernel_rfl) fun vals W hb hB hIw hd => ?_
            have h3 : vals 3 = _ := hd 3 (by simp) _ rfl
            rw [h3]
            have hc : W.cell? (ad.add k) = some (.int .i64 z) := (hIw 0 (by kernel_rfl)).1
            go_wp2
            exact ⟨rfl, _, rfl, Gr.refl _, rfl⟩
          · refine step_sV 5 [0, 4] [0, 1, 2, 3, 4, 6, 7, 8, 9, 10, 11] _ _ rfl rfl (by kernel_rfl) (by kernel_rfl) fun vals W hb hB hIw hd => ?_
            have h0 : vals 0 = _ := hd 0 (by simp) _ rfl
            have h4 : vals 4 = _ := hd 4 (by simp) _ rfl
            rw [h0, h4]
            have hr3 : DiceP W w.heap.size s := hIw 1 (by kernel_rfl)
            go_wp2_with (go_at_call 24; (with_reducible refine (below_any W w.heap.size z s hr3 hzl).mono ?_); rintro e w3 ⟨rfl, hr4, hx4⟩)
            refine ⟨rfl, _, rfl, ⟨hx4.os, hx4.tape, hx4.output, hx4.size, fun k hk => hx4.block k (by omega) (by simp; omega)⟩, ⟨rfl, hr4⟩, fun n hn hI => ?_, fun j hj => ?_⟩
            · rcases n with _ | _ | _ | n
              · obtain ⟨hI1, hI2⟩ := (show W.cell? (ad.add k) = some (.int .i64 z) ∧ w.heap.size ≤ W.heap.size from hI)
                exact ⟨(World.grownBy.cell_far hx4 (ad.add k) (by omega) (by simp; omega)).trans hI1, Nat.le_trans hI2 hx4.size⟩
              · cases hn
              · exact DiceR.x hI hx4 (by omega)
              · trivial
            · simp only [List.mem_cons, List.not_mem_nil, or_false] at hj
              rcases hj with rfl | rfl | rfl | rfl | rfl | rfl | rfl | rfl | rfl | rfl | rfl
              all_goals
                intro g' hg' hp
                obtain rfl := Option.some.inj hg'
              · exact hp
              · exact hp
              · exact hp
              · exact hp
              · exact hp
              · exact hp
              · exact hp
              · exact hp
              · exact hp
              · exact hp
              · exact ⟨hp.1, hp.2.x hx4 (by omega)⟩
          · refine step_gV 6 [] _ _ rfl rfl hI (by kernel_rfl) fun vals W hb hB hIw hd => ?_
            go_wp2
            exact ⟨rfl, _, rfl, Gr.refl _, rfl⟩
          · refine step_gV 7 [] _ _ rfl rfl hI (by kernel_rfl) fun vals W hb hB hIw hd => ?_
            go_wp2
            exact ⟨rfl, _, rfl, Gr.refl _, rfl⟩
          · refine step_gV 8 [] _ _ rfl rfl hI (by kernel_rfl) fun vals W hb hB hIw hd => ?_
            go_wp2
            exact ⟨rfl, _, rfl, Gr.refl _, rfl⟩
          · refine step_gV 9 [7, 8] _ _ rfl rfl hI (by kernel_rfl) fun vals W hb hB hIw hd => ?_
            have h7 : vals 7 = _ := hd 7 (by simp) _ rfl
            have h8 : vals 8 = _ := hd 8 (by simp) _ rfl
            rw [h7, h8]
            go_wp2
            exact ⟨rfl, _, rfl, Gr.refl _, rfl⟩
          · refine step_gV 10 [9] _ _ rfl rfl hI (by kernel_rfl) fun vals W hb hB hIw hd => ?_
            have h9 : vals 9 = _ := hd 9 (by simp) _ rfl
            rw [h9]
            have hc : W.cell? (ad.add k) = some (.int .i64 z) := (hIw 0 (by kernel_rfl)).1
            go_wp2
            exact ⟨rfl, _, rfl, Gr.refl _, rfl⟩
          · refine step_sV 11 [6, 10] [0, 1, 2, 3, 4, 5, 6, 7, 8, 9, 10] _ _ rfl rfl (by kernel_rfl) (by kernel_rfl) fun vals W hb hB hIw hd => ?_
            have h6 : vals 6 = _ := hd 6 (by simp) _ rfl
            have h10 : vals 10 = _ := hd 10 (by simp) _ rfl
            rw [h6, h10]
            have hr3 : DiceR W (w.heap.size + 1) s := hIw 2 (by kernel_rfl)
            go_wp2_with (go_at_call 25; (with_reducible refine (rbelow_any W (w.heap.size + 1) z s hr3 hzl).mono ?_); rintro e w3 ⟨rfl, hr4, hx4⟩)
            refine ⟨rfl, _, rfl, ⟨hx4.os, hx4.tape, hx4.output, hx4.size, fun k hk => hx4.block k (by omega) (by simp; omega)⟩, ⟨rfl, hr4⟩, fun n hn hI => ?_, fun j hj => ?_⟩
            · rcases n with _ | _ | _ | n
              · obtain ⟨hI1, hI2⟩ := (show W.cell? (ad.add k) = some (.int .i64 z) ∧ w.heap.size ≤ W.heap.size from hI)
                exact ⟨(World.grownBy.cell_far hx4 (ad.add k) (by omega) (by simp; omega)).trans hI1, Nat.le_trans hI2 hx4.size⟩
              · exact DiceP.x hI hx4 (by omega)
              · cases hn
              · trivial
            · simp only [List.mem_cons, List.not_mem_nil, or_false] at hj
              rcases hj with rfl | rfl | rfl | rfl | rfl | rfl | rfl | rfl | rfl | rfl | rfl
              all_goals
                intro g' hg' hp
                obtain rfl := Option.some.inj hg'
              · exact hp
              · exact hp
              · exact hp
              · exact hp
              · exact hp
              · exact ⟨hp.1, hp.2.x hx4 (by omega)⟩
              · exact hp
              · exact hp
              · exact hp
              · exact hp
              · exact hp
          · refine step_gV 12 [5, 11] _ _ rfl rfl hI (by kernel_rfl) fun vals W hb hB hIw hd => ?_
            obtain ⟨h5, _⟩ := (show vals 5 = _ ∧ _ from hd 5 (by simp) _ rfl)
            obtain ⟨h11, _⟩ := (show vals 11 = _ ∧ _ from hd 11 (by simp) _ rfl)
            rw [h5, h11]
            go_wp2
            exact ⟨rfl, _, rfl, Gr.refl _, rfl⟩
        · intro vals W3 hb3 hf
          obtain ⟨_, hr3⟩ := (show vals 5 = _ ∧ DiceP W3 w.heap.size _ from hf 5 _ rfl (fun k hk => rfl))
          obtain ⟨_, hr4⟩ := (show vals 11 = _ ∧ DiceR W3 (w.heap.size + 1) _ from hf 11 _ rfl (fun k hk => rfl))
          have h12 : vals 12 = .bool false := hf 12 _ rfl (fun k hk => rfl)
          have hG3 : Gr w W3 := Below.trans hg hb3
          rw [h12]
          go_wp2
          go_roundw
          case rel => exact ⟨k + 1, by go_num, by omega, hG3, by rw [HT.out]; exact hr3, by rw [HT.out]; exact hr4⟩
          case measure => simp [intOf]; omega
      · obtain rfl : k = N := by omega
        clear hcell
        go_wp2_with (first
          | (go_at_call 27; (with_reducible refine (gscript_all _ (HP.out.below (Gr.new hg _)) seed n hs).mono ?_); rintro e w2 ⟨v2, rfl, hr2, hg2⟩)
          | (go_at_call 28; (with_reducible refine (rscript_all _ seed n hs).mono ?_); rintro e w3 ⟨v3, rfl, hr3, hg3⟩)
          | (go_at_call 26; (with_reducible refine (lsame_any (scrA seed n) v2 v3 _ (scrA_data seed n) (scrA_len seed n) (hr2.gr hg3) hr3).mono ?_); rintro e w4 ⟨rfl, hg4⟩
             have hG4 := Gr.trans (Gr.trans (Gr.trans (Gr.new hg (.cells #[.bool false, .int .u64 0] 51)) hg2) hg3) hg4
             have hB4 := (Blk.new wr 51 #[.bool false, .int .u64 0]).below (Gr.trans (Gr.trans hg2 hg3) hg4) (Blk.new wr 51 #[.bool false, .int .u64 0]).lt)
          | (go_at_call 24; (with_reducible refine (below_nil _ 9).mono ?_); rintro e w5 ⟨rfl, rfl⟩)
          | (go_at_call 24; (with_reducible refine (below_unmade _ wr.heap.size 9 0 hB4).mono ?_); rintro e w6 ⟨rfl, rfl⟩)
          | (go_at_call 22; (with_reducible refine (glive_any _ (HP.out.below hG4)).mono ?_); rintro e w7 ⟨rfl, hg7⟩))
        go_ret
        exact ⟨rfl, Gr.trans hG4 hg7⟩
  · go_enter Tryd.func6, Tryd.ntmps6
    go_wp2_with (go_at_call 22; (with_reducible refine (glive_any _ HP.out).mono ?_); rintro e w1 ⟨rfl, hg1⟩)
    go_ret
    exact ⟨rfl, hg1⟩
theorem row_genscripts (seed n : Int) (A : Option Addr) (N c : Nat) (zs : List Int) (W : World) (hs : (Lit.int .u64 seed).wf = true) (_ : (Lit.int .i64 n).wf = true)
    (h : (A = none ∧ N = 0 ∧ c = 0 ∧ zs = []) ∨ ∃ x, A = some x ∧ N ≤ c ∧ c ≤ maxLen ∧ zs.length = c ∧ (∀ i, i < zs.length → W.cell? (x.add i) = some (.int .i64 (zs.getD i 0))) ∧ ∀ z ∈ zs, (Lit.int .i64 z).wf = true)
    (hP : Pow W) : Calls Tryd.prog 6 #[.int .u64 seed, .int .i64 n, .slice A N c] W fun e w' => e = .returned (.bool true) ∧ Below W.heap.size W w' := by
  have hs' := (Lit.wf_int_iff .u64 seed).1 hs
  have hS : IsS seed := ⟨hs'.1, by have : seed ≤ 18446744073709551615 := hs'.2; omega⟩
  rcases h with ⟨rfl, rfl, rfl, rfl⟩ | ⟨x, rfl, hnc, _, hz, hcell, hwf⟩
  · exact law_genscripts seed n none 0 0 [] W hP hS (Nat.le_refl _) rfl (fun z hz => by cases hz) (fun h => absurd h (by omega))
  · refine law_genscripts seed n (some x) N c (zs.take N) W hP hS hnc (by simp; omega) (fun z hz => ((Lit.wf_int_iff .i64 z).1 (hwf z (List.mem_of_mem_take hz))).2) (fun h0 => ⟨x, rfl, ?_, fun k z hk => ?_⟩)
    · have := block_lt_of_cell (hcell 0 (by omega))
      rwa [block_of_add] at this
    · rw [List.getElem?_take] at hk
      split at hk
      · rename_i hkN
        rw [hcell k (by omega), List.getD_eq_getElem?_getD, hk]
        rfl
      · cases hk
end Go.Proofs.YteoidkjiigjlaaaDoor
