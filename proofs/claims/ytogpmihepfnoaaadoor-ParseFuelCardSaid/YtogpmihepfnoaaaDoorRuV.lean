/- Conditions as texts: the program's written. -/
import Derived.Test.YtogpmihepfnoaaaDoorRuU
namespace Go.Proofs.YtogpmihepfnoaaaDoor
open Go Go.RowKit Go.Sort

theorem ba_lists (l : List (List UInt8)) : (l.map ba).map (·.data.toList) = l := by
  rw [List.map_map]
  exact (List.map_congr_left (fun _ _ => rfl)).trans (List.map_id l)
theorem gr_of_below1 {w w1 w2 : World} (h : Gr w w1) (h2 : Below (w.heap.size + 1) w1 w2) : Gr w w2 := Below.trans h (h2.mono (Nat.le_succ _))
set_option maxRecDepth 100000 in
set_option maxHeartbeats 8000000 in
theorem pwritten_n : ∀ (N : Nat) (x : Ex) (v : Value) (w : World) (n d m : Nat), SizeOf.sizeOf x ≤ N → RdEx w (· < w.heap.size) x v → Pow w → n ≤ 1000 → mayX x n d = some m →
    Calls Tryd.prog 41 #[v] w fun e w' => e = .returned (.string (ba (exprL x))) ∧ Gr w w'
  | 0, .mk op days mile ks, v, w, n, d, m, hN, _, _, _, _ => by
    have : 0 < SizeOf.sizeOf (Ex.mk op days mile ks) := by rw [Ex.mk.sizeOf_spec]; omega
    omega
  | N + 1, .mk op days mile ks, v, w, n, d, m, hN, hx, hPw, hn, hm => by
    have ih := pwritten_n N
    obtain ⟨A, c, vs, rfl, ⟨hc, hcm, hms⟩, hr, hl⟩ := hx.form
    clear hx
    unfold maxLen at hcm
    rcases mayX_kind hm with ⟨rfl, h0, h1, h2⟩ | ⟨ho, hk2, hmL⟩
    · rw [exprL_1]
      exact pwritten_1 days mile A ks.length c w hPw h0 h1 h2
    · have HPW := Lib.hid hPw
      clear hPw
      have hsz : ∀ (k : Nat) (x : Ex), ks[k]? = some x → SizeOf.sizeOf x ≤ N := by
        intro k x hx
        have h1 := List.sizeOf_lt_of_mem (List.mem_of_getElem? hx)
        have h2 : SizeOf.sizeOf (Ex.mk op days mile ks) = 1 + SizeOf.sizeOf op + SizeOf.sizeOf days + SizeOf.sizeOf mile + SizeOf.sizeOf ks := Ex.mk.sizeOf_spec op days mile ks
        omega
      have ho1 : op ≠ 1 := by omega
      rw [exprL_2 ho1]
      have hfull : (partsL op ks).take ks.length = partsL op ks := List.take_of_length_le (by rw [partsL_len]; exact Nat.le_refl _)
      have hb := parts_bound (op := op) hmL (by omega) ks.length
      rw [hfull] at hb
      have hj := fun k x (h : ks[k]? = some x) => take_part (op := op) h
      have hkid := fun k x (h : ks[k]? = some x) => mayXL_at ks _ _ _ k x hmL h
      have hn1 : n - 1 ≤ 1000 := by omega
      have hpl := partsL_len op ks
      have hks : ks.length ≤ 1000 := by have := mayXL_le ks _ _ _ hmL; omega
      have hj' : ∀ k x, ks[k]? = some x → ((partsL op ks).take (k + 1)).map ba = ((partsL op ks).take k).map ba ++ [ba (partL op x)] := fun k x h => by rw [hj k x h, List.map_append]; rfl
      have HJ := Lib.hid hj'
      have HK := Lib.hid hkid
      have HPL := Lib.hid hpl
      have HF := Lib.hid hfull
      have HBB := Lib.hid hb
      clear hj hj' hkid hm hmL ho1 hpl hfull hb
      generalize partsL op ks = PL at *
      rcases ho with rfl | rfl
      · go_enter Tryd.func41, Tryd.ntmps41
        go_wp2
        go_loopw [4, 24] (fun v4 v24 wr => ∃ k : Nat, v24 = .int .i64 (k : Int) ∧ OwnS wr (w.heap.size + 1) v4 ((PL.take k).map ba) ∧ k ≤ ks.length ∧ Gr w wr ∧ wr.cell? ⟨w.heap.size, 0, none⟩ = some (.int .i64 2)) (fun _ v24 _ => ks.length - (intOf v24).toNat)
        case atStart => exact ⟨0, rfl, OwnS.nil _ _, Nat.zero_le _, Gr.alloc _ _, (Blk.new w 48 _).cell 0⟩
        case round =>
          obtain ⟨k, rfl, hO, hk, hgw, b0⟩ := hrel
          have hblt := block_lt_of_cell b0
          by_cases hlt : k < ks.length
          · obtain ⟨x, hxk⟩ : ∃ x, ks[k]? = some x := ⟨_, List.getElem?_eq_getElem hlt⟩
            obtain ⟨ad, P, v0, v1, v2, v3, rfl, eP, hP, c0, c1, c2, c3, hsx⟩ := ex_cells (hr.gr hgw) (hl.gr hgw) rfl k x hxk
            obtain ⟨n', m', hn', hm'⟩ := HK.out k x hxk
            have cE := fun W hg => ih x _ W n' _ m' (hsz k x hxk) (hsx.gr hg) ((HPW.out.below hgw).below hg) (by omega) hm'
            have hJk := HJ.out k x hxk
            have hxb := ex_bound hm' (by omega)
            have hTl : ((PL.take k).map ba).length ≤ 100000 := by rw [List.length_map, List.length_take]; omega
            obtain ⟨op', dy', ml', ks'⟩ := x
            obtain ⟨A', c', rfl, rfl, rfl, rfl⟩ := hsx.four_
            have hLL : (ba (exprL (.mk op' dy' ml' ks'))).size ≤ 60000 := by rw [ba_size]; exact hxb
            generalize hL : exprL (.mk op' dy' ml' ks') = L at *
            have HL := Lib.hid hL
            generalize hT : ba L = T at *
            have HT := Lib.hid hT
            generalize hPT : (PL.take k).map ba = PT at *
            have HJK := Lib.hid hJk
            clear hL hT hxk hm' hn' hxb hsx hPT hJk
            have z1 : ¬ 9223372036854775807 < 1 + T.size := by omega
            have z2 : ¬ 9223372036854775807 < 1 + T.size + 1 := by omega
            rcases (by omega : op' = 2 ∨ op' = 3 ∨ (op' ≠ 2 ∧ op' ≠ 3)) with rfl | rfl | ⟨h2, h3⟩
            · have hp : partL 2 (.mk 2 dy' ml' ks') = 40 :: (L ++ [41]) := by rw [part_wrap (by unfold wrapB; first | rfl | simp), HL.out]
              have hX : (⟨#[40]⟩ ++ T ++ ⟨#[41]⟩) = ba (partL 2 (.mk 2 dy' ml' ks')) := by rw [hp, ← HT.out]; exact ba_wrap L
              have HX := Lib.hid hX
              clear hp hX
              go_wp2_with (first
                | (go_at_call 41; (with_reducible refine (cE _ (Gr.alloc _ _)).mono ?_); rintro e w1 ⟨rfl, hb1⟩
                   have hG1 := Gr.trans (Gr.alloc wr (.cells #[.int .i64 2, .int .i64 dy', .string ml', .slice A' ks'.length c'] 48)) hb1
                   have r0 := (hG1.cell (p := ⟨w.heap.size, 0, none⟩) hblt).trans b0
                   obtain ⟨q0, q1, q2, q3⟩ := four_ex ((Blk.new wr 48 #[.int .i64 2, .int .i64 dy', .string ml', .slice A' ks'.length c']).below hb1 (Blk.new wr _ _).lt))
                | (at_builtin
                   go_loud (refine wpList_appendS (w1.alloc (.cells #[.string (⟨#[40]⟩ ++ T ++ ⟨#[41]⟩)] 9)) rfl (.tmp 43) (.tmp 45) rfl (w.heap.size + 1) _ PT rfl (hO.gr (Gr.trans hG1 (Gr.alloc _ _))) (⟨#[40]⟩ ++ T ++ ⟨#[41]⟩) w1.heap.size rfl (Blk.new w1 _ _) hTl (by have := hG1.size; simp; omega) ?_)
                   intro v4 w4 ho4 hb4))
              all_goals (try (exfalso; omega))
              go_roundw
              case rel => exact ⟨k + 1, by go_num, by rw [HJK.out, ← HX.out]; exact ho4, by omega, gr_of_below1 (Gr.trans (Gr.trans hgw hG1) (Gr.alloc _ _)) hb4, ((hb4.cell (p := ⟨w.heap.size, 0, none⟩) (Nat.lt_succ_self _)).trans ((Gr.alloc w1 (.cells #[.string (⟨#[40]⟩ ++ T ++ ⟨#[41]⟩)] 9)).cell (p := ⟨w.heap.size, 0, none⟩) (Nat.lt_of_lt_of_le hblt hG1.size))).trans r0⟩
              case measure => simp [intOf]; omega
            · have hp : partL 2 (.mk 3 dy' ml' ks') = L := by rw [part_bare (by unfold wrapB; first | rfl | simp), HL.out]
              have hX : T = ba (partL 2 (.mk 3 dy' ml' ks')) := by rw [hp, ← HT.out]
              have HX := Lib.hid hX
              clear hp hX
              go_wp2_with (first
                | (go_at_call 41; (with_reducible refine (cE _ (Gr.alloc _ _)).mono ?_); rintro e w1 ⟨rfl, hb1⟩
                   have hG1 := Gr.trans (Gr.alloc wr (.cells #[.int .i64 3, .int .i64 dy', .string ml', .slice A' ks'.length c'] 48)) hb1
                   have r0 := (hG1.cell (p := ⟨w.heap.size, 0, none⟩) hblt).trans b0
                   obtain ⟨q0, q1, q2, q3⟩ := four_ex ((Blk.new wr 48 #[.int .i64 3, .int .i64 dy', .string ml', .slice A' ks'.length c']).below hb1 (Blk.new wr _ _).lt))
                | (at_builtin
                   go_loud (refine wpList_appendS (w1.alloc (.cells #[.string T] 9)) rfl (.tmp 43) (.tmp 45) rfl (w.heap.size + 1) _ PT rfl (hO.gr (Gr.trans hG1 (Gr.alloc _ _))) T w1.heap.size rfl (Blk.new w1 _ _) hTl (by have := hG1.size; simp; omega) ?_)
                   intro v4 w4 ho4 hb4))
              all_goals (try (exfalso; omega))
              go_roundw
              case rel => exact ⟨k + 1, by go_num, by rw [HJK.out, ← HX.out]; exact ho4, by omega, gr_of_below1 (Gr.trans (Gr.trans hgw hG1) (Gr.alloc _ _)) hb4, ((hb4.cell (p := ⟨w.heap.size, 0, none⟩) (Nat.lt_succ_self _)).trans ((Gr.alloc w1 (.cells #[.string T] 9)).cell (p := ⟨w.heap.size, 0, none⟩) (Nat.lt_of_lt_of_le hblt hG1.size))).trans r0⟩
              case measure => simp [intOf]; omega
            · have hp : partL 2 (.mk op' dy' ml' ks') = L := by rw [part_bare (by unfold wrapB; first | rfl | simp [h2]), HL.out]
              have hX : T = ba (partL 2 (.mk op' dy' ml' ks')) := by rw [hp, ← HT.out]
              have HX := Lib.hid hX
              have y1 : (op' == 2) = false := by simp [h2]
              have y2 : (op' == 2) = false := by simp [h2]
              clear hp hX h2 h3
              go_wp2_with (first
                | (go_at_call 41; (with_reducible refine (cE _ (Gr.alloc _ _)).mono ?_); rintro e w1 ⟨rfl, hb1⟩
                   have hG1 := Gr.trans (Gr.alloc wr (.cells #[.int .i64 op', .int .i64 dy', .string ml', .slice A' ks'.length c'] 48)) hb1
                   have r0 := (hG1.cell (p := ⟨w.heap.size, 0, none⟩) hblt).trans b0
                   obtain ⟨q0, q1, q2, q3⟩ := four_ex ((Blk.new wr 48 #[.int .i64 op', .int .i64 dy', .string ml', .slice A' ks'.length c']).below hb1 (Blk.new wr _ _).lt))
                | (at_builtin
                   go_loud (refine wpList_appendS (w1.alloc (.cells #[.string T] 9)) rfl (.tmp 43) (.tmp 45) rfl (w.heap.size + 1) _ PT rfl (hO.gr (Gr.trans hG1 (Gr.alloc _ _))) T w1.heap.size rfl (Blk.new w1 _ _) hTl (by have := hG1.size; simp; omega) ?_)
                   intro v4 w4 ho4 hb4))
              all_goals (try (exfalso; omega))
              go_roundw
              case rel => exact ⟨k + 1, by go_num, by rw [HJK.out, ← HX.out]; exact ho4, by omega, gr_of_below1 (Gr.trans (Gr.trans hgw hG1) (Gr.alloc _ _)) hb4, ((hb4.cell (p := ⟨w.heap.size, 0, none⟩) (Nat.lt_succ_self _)).trans ((Gr.alloc w1 (.cells #[.string T] 9)).cell (p := ⟨w.heap.size, 0, none⟩) (Nat.lt_of_lt_of_le hblt hG1.size))).trans r0⟩
              case measure => simp [intOf]; omega
          · obtain rfl : k = ks.length := by omega
            rw [HF.out] at hO
            have hl2 : 0 < (PL.map ba).length := by rw [List.length_map, HPL.out]; omega
            obtain ⟨g, cap, rfl, hcap, hglt, hcells⟩ := hO.form hl2
            have cJ := Tryd.strings_Join g 0 cap (PL.map ba) ⟨#[32, 111, 114, 32]⟩ wr hcells hglt (by rw [List.length_map, HPL.out]; omega) hcap (by rw [ba_lists]; exact Nat.le_trans HBB.out (by omega))
            rw [ba_lists, List.length_map] at cJ
            have cJ2 : Calls Tryd.prog 68 #[.slice (some ⟨g, 0, none⟩) PL.length cap, .string ⟨#[32, 111, 114, 32]⟩] wr fun e w' => e = .returned (.string (ba (Lib.join PL (sepL 2)))) ∧ Gr wr w' := cJ
            clear cJ hO hcells hl2
            go_wp2_with (go_at_call 68; (with_reducible refine cJ2.mono ?_); rintro e w1 ⟨rfl, hb1⟩)
            go_ret
            exact ⟨rfl, Gr.trans hgw hb1⟩
      · go_enter Tryd.func41, Tryd.ntmps41
        go_wp2
        go_loopw [4, 24] (fun v4 v24 wr => ∃ k : Nat, v24 = .int .i64 (k : Int) ∧ OwnS wr (w.heap.size + 1) v4 ((PL.take k).map ba) ∧ k ≤ ks.length ∧ Gr w wr ∧ wr.cell? ⟨w.heap.size, 0, none⟩ = some (.int .i64 3)) (fun _ v24 _ => ks.length - (intOf v24).toNat)
        case atStart => exact ⟨0, rfl, OwnS.nil _ _, Nat.zero_le _, Gr.alloc _ _, (Blk.new w 48 _).cell 0⟩
        case round =>
          obtain ⟨k, rfl, hO, hk, hgw, b0⟩ := hrel
          have hblt := block_lt_of_cell b0
          by_cases hlt : k < ks.length
          · obtain ⟨x, hxk⟩ : ∃ x, ks[k]? = some x := ⟨_, List.getElem?_eq_getElem hlt⟩
            obtain ⟨ad, P, v0, v1, v2, v3, rfl, eP, hP, c0, c1, c2, c3, hsx⟩ := ex_cells (hr.gr hgw) (hl.gr hgw) rfl k x hxk
            obtain ⟨n', m', hn', hm'⟩ := HK.out k x hxk
            have cE := fun W hg => ih x _ W n' _ m' (hsz k x hxk) (hsx.gr hg) ((HPW.out.below hgw).below hg) (by omega) hm'
            have hJk := HJ.out k x hxk
            have hxb := ex_bound hm' (by omega)
            have hTl : ((PL.take k).map ba).length ≤ 100000 := by rw [List.length_map, List.length_take]; omega
            obtain ⟨op', dy', ml', ks'⟩ := x
            obtain ⟨A', c', rfl, rfl, rfl, rfl⟩ := hsx.four_
            have hLL : (ba (exprL (.mk op' dy' ml' ks'))).size ≤ 60000 := by rw [ba_size]; exact hxb
            generalize hL : exprL (.mk op' dy' ml' ks') = L at *
            have HL := Lib.hid hL
            generalize hT : ba L = T at *
            have HT := Lib.hid hT
            generalize hPT : (PL.take k).map ba = PT at *
            have HJK := Lib.hid hJk
            clear hL hT hxk hm' hn' hxb hsx hPT hJk
            have z1 : ¬ 9223372036854775807 < 1 + T.size := by omega
            have z2 : ¬ 9223372036854775807 < 1 + T.size + 1 := by omega
            rcases (by omega : op' = 2 ∨ op' = 3 ∨ (op' ≠ 2 ∧ op' ≠ 3)) with rfl | rfl | ⟨h2, h3⟩
            · have hp : partL 3 (.mk 2 dy' ml' ks') = 40 :: (L ++ [41]) := by rw [part_wrap (by unfold wrapB; first | rfl | simp), HL.out]
              have hX : (⟨#[40]⟩ ++ T ++ ⟨#[41]⟩) = ba (partL 3 (.mk 2 dy' ml' ks')) := by rw [hp, ← HT.out]; exact ba_wrap L
              have HX := Lib.hid hX
              clear hp hX
              go_wp2_with (first
                | (go_at_call 41; (with_reducible refine (cE _ (Gr.alloc _ _)).mono ?_); rintro e w1 ⟨rfl, hb1⟩
                   have hG1 := Gr.trans (Gr.alloc wr (.cells #[.int .i64 2, .int .i64 dy', .string ml', .slice A' ks'.length c'] 48)) hb1
                   have r0 := (hG1.cell (p := ⟨w.heap.size, 0, none⟩) hblt).trans b0
                   obtain ⟨q0, q1, q2, q3⟩ := four_ex ((Blk.new wr 48 #[.int .i64 2, .int .i64 dy', .string ml', .slice A' ks'.length c']).below hb1 (Blk.new wr _ _).lt))
                | (at_builtin
                   go_loud (refine wpList_appendS (w1.alloc (.cells #[.string (⟨#[40]⟩ ++ T ++ ⟨#[41]⟩)] 9)) rfl (.tmp 43) (.tmp 45) rfl (w.heap.size + 1) _ PT rfl (hO.gr (Gr.trans hG1 (Gr.alloc _ _))) (⟨#[40]⟩ ++ T ++ ⟨#[41]⟩) w1.heap.size rfl (Blk.new w1 _ _) hTl (by have := hG1.size; simp; omega) ?_)
                   intro v4 w4 ho4 hb4))
              all_goals (try (exfalso; omega))
              go_roundw
              case rel => exact ⟨k + 1, by go_num, by rw [HJK.out, ← HX.out]; exact ho4, by omega, gr_of_below1 (Gr.trans (Gr.trans hgw hG1) (Gr.alloc _ _)) hb4, ((hb4.cell (p := ⟨w.heap.size, 0, none⟩) (Nat.lt_succ_self _)).trans ((Gr.alloc w1 (.cells #[.string (⟨#[40]⟩ ++ T ++ ⟨#[41]⟩)] 9)).cell (p := ⟨w.heap.size, 0, none⟩) (Nat.lt_of_lt_of_le hblt hG1.size))).trans r0⟩
              case measure => simp [intOf]; omega
            · have hp : partL 3 (.mk 3 dy' ml' ks') = 40 :: (L ++ [41]) := by rw [part_wrap (by unfold wrapB; first | rfl | simp), HL.out]
              have hX : (⟨#[40]⟩ ++ T ++ ⟨#[41]⟩) = ba (partL 3 (.mk 3 dy' ml' ks')) := by rw [hp, ← HT.out]; exact ba_wrap L
              have HX := Lib.hid hX
              clear hp hX
              go_wp2_with (first
                | (go_at_call 41; (with_reducible refine (cE _ (Gr.alloc _ _)).mono ?_); rintro e w1 ⟨rfl, hb1⟩
                   have hG1 := Gr.trans (Gr.alloc wr (.cells #[.int .i64 3, .int .i64 dy', .string ml', .slice A' ks'.length c'] 48)) hb1
                   have r0 := (hG1.cell (p := ⟨w.heap.size, 0, none⟩) hblt).trans b0
                   obtain ⟨q0, q1, q2, q3⟩ := four_ex ((Blk.new wr 48 #[.int .i64 3, .int .i64 dy', .string ml', .slice A' ks'.length c']).below hb1 (Blk.new wr _ _).lt))
                | (at_builtin
                   go_loud (refine wpList_appendS (w1.alloc (.cells #[.string (⟨#[40]⟩ ++ T ++ ⟨#[41]⟩)] 9)) rfl (.tmp 43) (.tmp 45) rfl (w.heap.size + 1) _ PT rfl (hO.gr (Gr.trans hG1 (Gr.alloc _ _))) (⟨#[40]⟩ ++ T ++ ⟨#[41]⟩) w1.heap.size rfl (Blk.new w1 _ _) hTl (by have := hG1.size; simp; omega) ?_)
                   intro v4 w4 ho4 hb4))
              all_goals (try (exfalso; omega))
              go_roundw
              case rel => exact ⟨k + 1, by go_num, by rw [HJK.out, ← HX.out]; exact ho4, by omega, gr_of_below1 (Gr.trans (Gr.trans hgw hG1) (Gr.alloc _ _)) hb4, ((hb4.cell (p := ⟨w.heap.size, 0, none⟩) (Nat.lt_succ_self _)).trans ((Gr.alloc w1 (.cells #[.string (⟨#[40]⟩ ++ T ++ ⟨#[41]⟩)] 9)).cell (p := ⟨w.heap.size, 0, none⟩) (Nat.lt_of_lt_of_le hblt hG1.size))).trans r0⟩
              case measure => simp [intOf]; omega
            · have hp : partL 3 (.mk op' dy' ml' ks') = L := by rw [part_bare (by unfold wrapB; first | rfl | simp [h2, h3]), HL.out]
              have hX : T = ba (partL 3 (.mk op' dy' ml' ks')) := by rw [hp, ← HT.out]
              have HX := Lib.hid hX
              have y1 : (op' == 2) = false := by simp [h2]
              have y2 : (op' == 3) = false := by simp [h3]
              clear hp hX h2 h3
              go_wp2_with (first
                | (go_at_call 41; (with_reducible refine (cE _ (Gr.alloc _ _)).mono ?_); rintro e w1 ⟨rfl, hb1⟩
                   have hG1 := Gr.trans (Gr.alloc wr (.cells #[.int .i64 op', .int .i64 dy', .string ml', .slice A' ks'.length c'] 48)) hb1
                   have r0 := (hG1.cell (p := ⟨w.heap.size, 0, none⟩) hblt).trans b0
                   obtain ⟨q0, q1, q2, q3⟩ := four_ex ((Blk.new wr 48 #[.int .i64 op', .int .i64 dy', .string ml', .slice A' ks'.length c']).below hb1 (Blk.new wr _ _).lt))
                | (at_builtin
                   go_loud (refine wpList_appendS (w1.alloc (.cells #[.string T] 9)) rfl (.tmp 43) (.tmp 45) rfl (w.heap.size + 1) _ PT rfl (hO.gr (Gr.trans hG1 (Gr.alloc _ _))) T w1.heap.size rfl (Blk.new w1 _ _) hTl (by have := hG1.size; simp; omega) ?_)
                   intro v4 w4 ho4 hb4))
              all_goals (try (exfalso; omega))
              go_roundw
              case rel => exact ⟨k + 1, by go_num, by rw [HJK.out, ← HX.out]; exact ho4, by omega, gr_of_below1 (Gr.trans (Gr.trans hgw hG1) (Gr.alloc _ _)) hb4, ((hb4.cell (p := ⟨w.heap.size, 0, none⟩) (Nat.lt_succ_self _)).trans ((Gr.alloc w1 (.cells #[.string T] 9)).cell (p := ⟨w.heap.size, 0, none⟩) (Nat.lt_of_lt_of_le hblt hG1.size))).trans r0⟩
              case measure => simp [intOf]; omega
          · obtain rfl : k = ks.length := by omega
            rw [HF.out] at hO
            have hl2 : 0 < (PL.map ba).length := by rw [List.length_map, HPL.out]; omega
            obtain ⟨g, cap, rfl, hcap, hglt, hcells⟩ := hO.form hl2
            have cJ := Tryd.strings_Join g 0 cap (PL.map ba) ⟨#[32, 97, 110, 100, 32]⟩ wr hcells hglt (by rw [List.length_map, HPL.out]; omega) hcap (by rw [ba_lists]; exact Nat.le_trans HBB.out (by omega))
            rw [ba_lists, List.length_map] at cJ
            have cJ2 : Calls Tryd.prog 68 #[.slice (some ⟨g, 0, none⟩) PL.length cap, .string ⟨#[32, 97, 110, 100, 32]⟩] wr fun e w' => e = .returned (.string (ba (Lib.join PL (sepL 3)))) ∧ Gr wr w' := cJ
            clear cJ hO hcells hl2
            go_wp2_with (go_at_call 68; (with_reducible refine cJ2.mono ?_); rintro e w1 ⟨rfl, hb1⟩)
            go_ret
            exact ⟨rfl, Gr.trans hgw hb1⟩
end Go.Proofs.YtogpmihepfnoaaaDoor
