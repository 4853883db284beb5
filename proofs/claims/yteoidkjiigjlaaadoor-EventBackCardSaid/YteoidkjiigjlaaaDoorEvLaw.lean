/- The law EventPuts: its parts and its walk. -/
import Derived.Test.YteoidkjiigjlaaaDoorEvPut
import Derived.DataShut
namespace Go.Proofs.YteoidkjiigjlaaaDoor
open Go Go.RowKit Go.Sort

theorem beL_5 : beL 5 = [5] := by rw [beL_pos (by omega), show 5 / 256 = 0 from rfl, beL_zero]; rfl
theorem beL_1 : beL 1 = [1] := by rw [beL_pos (by omega), show 1 / 256 = 0 from rfl, beL_zero]; rfl
theorem ev_may : mayD 10 5 ⟨#[114]⟩ ⟨#[]⟩ = true := by
  unfold mayD nmD
  rw [ByteArray.toList_eq, ByteArray.toList_eq]
  decide
theorem ev_bytes : evB 10 5 ⟨#[114]⟩ ⟨#[]⟩ = [10, 1, 5, 1, 1, 114, 0] := by
  rw [evB, ev_may, if_pos rfl]
  simp [evL, textB, numB, beL_5, beL_1, beL_zero]
theorem ev_text : evTextD 10 5 ⟨#[114]⟩ ⟨#[]⟩ = ⟨#[53, 32, 112, 117, 114, 103, 101, 32, 114]⟩ := by
  rw [evTextD, ev_may, if_pos rfl]
  unfold partD
  rw [ByteArray.toList_eq, ByteArray.toList_eq]
  have : Lib.itoa 5 = [53] := by rw [show (5 : Int) = ((5 : Nat) : Int) by omega, Lib.itoa_nonneg, Lib.decDigits_one (by omega)]; rfl
  rw [this]
  decide

theorem ev_ends : endsD 10 5 ⟨#[114]⟩ ⟨#[]⟩ = true := by rw [endsD, ev_may]; rfl
theorem lit_rd (W : World) (l : List UInt8) (cs : Array Value) (n : Nat) (hn : n = l.length) (e : cs.toList = bvs l) : RdB (W.alloc (.cells cs 5)) (W.alloc (.cells cs 5)).heap.size (.slice (some ⟨W.heap.size, 0, none⟩) n n) l := by
  subst hn
  have h := Reads.lit W 5 cs
  have hs : cs.size = l.length := by rw [← Array.length_toList, e, bvs_length]
  rw [e, hs] at h
  exact ⟨_, _, rfl, Nat.le_refl _, h⟩

set_option maxRecDepth 100000 in
set_option maxHeartbeats 2000000 in
theorem evlive_any (w : World) (hP : Pow w) : Calls Tryd.prog 10 #[] w fun e w' => e = .returned (.bool true) ∧ Gr w w' := by
  have HP := Lib.hid hP
  have e1 : evE 10 5 ⟨#[114]⟩ ⟨#[]⟩ = 0 := by rw [evE, ev_may]; rfl
  have e2 := ev_text
  have e3 := ev_ends
  clear hP
  go_enter Tryd.func10, Tryd.ntmps10
  go_wp2_with (first
    | (go_at_call 11; (with_reducible refine (put_any 10 5 ⟨#[114]⟩ ⟨#[]⟩ _ (by omega) (by decide) (by decide)).mono ?_); rintro e w1 ⟨v1, rfl, ho1, hb1⟩
       rw [ev_bytes] at ho1
       have hG := Gr.trans (Gr.alloc w _) hb1
       have hB1 := (Blk.new w _ _).below hb1 (Blk.new w _ _).lt)
    | (go_at_call 13; (with_reducible refine (same_any _ _ _ _ [10, 1, 5, 1, 1, 114, 0] [10, 1, 5, 1, 1, 114, 0] (Nat.le_refl _) ((ho1.rd.gr (Nat.le_refl _) (Gr.alloc _ _)).more (Gr.alloc _ _).size) (lit_rd w1 [10, 1, 5, 1, 1, 114, 0] _ 7 rfl (by simp [bvs, bv])) (by decide)).mono ?_); rintro e w2 ⟨rfl, hb2⟩
       have hb2 := Gr.trans (Gr.alloc w1 _) hb2
       have hG2 := Gr.trans hG hb2
       have hB2 := hB1.below hb2 hB1.lt
       obtain ⟨c20, c21, c22, c23⟩ := four_cells hB2)
    | (go_at_call 16; (with_reducible refine (evtext_any 10 5 ⟨#[114]⟩ ⟨#[]⟩ _ (HP.out.below hG2) (by omega) (by decide) (by decide)).mono ?_); rintro e w3 ⟨rfl, hb3⟩
       have hG3 := Gr.trans hG2 hb3
       have hB3 := hB2.below hb3 hB2.lt
       obtain ⟨c30, c31, c32, c33⟩ := four_cells hB3)
    | (go_at_call 18; (with_reducible refine (ends_any 10 5 ⟨#[114]⟩ ⟨#[]⟩ _ (by omega) (by decide) (by decide)).mono ?_); rintro e w4 ⟨rfl, hb4⟩
       have hG4 := Gr.trans hG3 hb4)
    | go_in)
  go_ret
  exact ⟨rfl, hG4⟩

theorem num_any' (n : Int) (w : World) : Calls Tryd.prog 14 #[.int .i64 n] w fun e w' => e = .returned (.int .i64 n) ∧ w = w' := by
  go_enter Tryd.func14, Tryd.ntmps14
  go_wp2
  go_ret
  exact ⟨rfl, rfl⟩

set_option maxRecDepth 100000 in
set_option maxHeartbeats 2000000 in
theorem law_evputs (k t : Int) (a b : ByteArray) (w : World) (hP : Pow w) (hk : k ≤ 9223372036854775807) (_ : a.size ≤ maxLen) (_ : b.size ≤ maxLen) :
    Calls Tryd.prog 3 #[evV k t a b] w fun e w' => e = .returned (.bool true) ∧ Gr w w' := by
  have HP := Lib.hid hP
  clear hP
  rcases (by omega : 100 < a.size ∨ a.size ≤ 100 ∧ 100 < b.size ∨ a.size ≤ 100 ∧ b.size ≤ 100) with h | h | h
  · go_enter Tryd.func3, Tryd.ntmps3
    go_wp2_with (go_at_call 10; (with_reducible refine (evlive_any _ (HP.out.below (Gr.alloc _ _))).mono ?_); rintro e w1 ⟨rfl, hb1⟩)
    go_ret
    exact ⟨rfl, Gr.trans (Gr.alloc _ _) hb1⟩
  · go_enter Tryd.func3, Tryd.ntmps3
    go_wp2_with (go_at_call 10; (with_reducible refine (evlive_any _ (HP.out.below (Gr.alloc _ _))).mono ?_); rintro e w1 ⟨rfl, hb1⟩)
    go_ret
    exact ⟨rfl, Gr.trans (Gr.alloc _ _) hb1⟩
  · have ha : a.size ≤ 140737488351232 := by omega
    have hb : b.size ≤ 140737488351232 := by omega
    have cPut := fun W => put_any k t a b W hk ha hb
    have cRPut := fun W => refput_any k t a b W hk ha hb
    have cCheck := fun W => check_any k t a b W hk ha hb
    have cText := fun W hP => evtext_any k t a b W hP hk ha hb
    have cRText := fun W => refevtext_any k t a b W hk ha hb
    have cEnds := fun W => ends_any k t a b W hk ha hb
    have cREnds := fun W => refends_any k t a b W ha hb
    have hL : (evB k t a b).length ≤ 1073741824 := by
      unfold evB
      split
      · rename_i hm
        obtain ⟨k1, k2, t0, t1, na, nb⟩ := may_true hm
        exact ev_len k t a b t0 t1 (nm_size a na) (nm_size b nb)
      · simp
    have eE : evE k t a b = (if mayD k t a b = true then 0 else 1) := rfl
    rw [← eE] at cCheck
    clear eE
    generalize evE k t a b = E at cPut cRPut cCheck
    generalize evB k t a b = L at cPut cRPut hL
    generalize evTextD k t a b = T at cText cRText
    generalize endsD k t a b = N at cEnds cREnds
    go_enter Tryd.func3, Tryd.ntmps3
    go_wp2_with (first
      | (go_at_call 11; (with_reducible refine (cPut _).mono ?_); rintro e w1 ⟨v1, rfl, ho1, hb1⟩
         have hG1 := Gr.trans (Gr.alloc w _) hb1
         have hB1 := (Blk.new w _ _).below hb1 (Blk.new w _ _).lt
         obtain ⟨c10, c11, c12, c13⟩ := four_cells hB1)
      | (go_at_call 12; (with_reducible refine (cRPut _).mono ?_); rintro e w2 ⟨v2, rfl, ho2, hb2⟩
         have hG2 := Gr.trans hG1 hb2
         have hB2 := hB1.below hb2 hB1.lt
         obtain ⟨c20, c21, c22, c23⟩ := four_cells hB2
         have hr1 := (ho1.rd.gr (Nat.le_refl _) hb2).more hb2.size
         have hr2 := ho2.rd)
      | go_in)
    have q0 := cell_regrown c20
    have q1 := cell_regrown c21
    have q2 := cell_regrown c22
    have q3 := cell_regrown c23
    have k1 : ∀ d os, Calls Tryd.prog 13 #[v1, v2] (grow (redrawn w2 d) os) fun e w'' => e = .returned (.bool true) ∧ ∃ p : Regrown, w'' = grow (redrawn w2 p.d) p.os := fun d os => Calls.regrown_of (by
      have hb := below_regrown w2 d os
      have h := same_any (grow (redrawn w2 d) os) w2.heap.size v1 v2 L L hb.size (hr1.gr (Nat.le_refl _) hb) (hr2.gr (Nat.le_refl _) hb) hL
      rw [decide_eq_true rfl] at h
      exact h)
    have k2 : ∀ d os, Calls Tryd.prog 14 #[.int .i64 E] (grow (redrawn w2 d) os) fun e w'' => e = .returned (.int .i64 E) ∧ ∃ p : Regrown, w'' = grow (redrawn w2 p.d) p.os := fun d os => (num_any' E _).mono fun _ _ h => ⟨h.1, ⟨d, os⟩, h.2.symm⟩
    have k3 : ∀ d os, Calls Tryd.prog 15 #[evV k t a b] (grow (redrawn w2 d) os) fun e w'' => e = .returned (.int .i64 E) ∧ ∃ p : Regrown, w'' = grow (redrawn w2 p.d) p.os := fun d os => Calls.regrown_of (cCheck _)
    have k4 : ∀ d os, Calls Tryd.prog 16 #[evV k t a b] (grow (redrawn w2 d) os) fun e w'' => e = .returned (.string T) ∧ ∃ p : Regrown, w'' = grow (redrawn w2 p.d) p.os := fun d os => Calls.regrown_of (cText _ ((HP.out.below hG2).below (below_regrown w2 d os)))
    have k5 : ∀ d os, Calls Tryd.prog 17 #[evV k t a b] (grow (redrawn w2 d) os) fun e w'' => e = .returned (.string T) ∧ ∃ p : Regrown, w'' = grow (redrawn w2 p.d) p.os := fun d os => Calls.regrown_of (cRText _)
    have k6 : ∀ d os, Calls Tryd.prog 18 #[evV k t a b] (grow (redrawn w2 d) os) fun e w'' => e = .returned (.bool N) ∧ ∃ p : Regrown, w'' = grow (redrawn w2 p.d) p.os := fun d os => Calls.regrown_of (cEnds _)
    have k7 : ∀ d os, Calls Tryd.prog 19 #[evV k t a b] (grow (redrawn w2 d) os) fun e w'' => e = .returned (.bool N) ∧ ∃ p : Regrown, w'' = grow (redrawn w2 p.d) p.os := fun d os => Calls.regrown_of (cREnds _)
    have k8 : ∀ d os, Calls Tryd.prog 10 #[] (grow (redrawn w2 d) os) fun e w'' => e = .returned (.bool true) ∧ ∃ p : Regrown, w'' = grow (redrawn w2 p.d) p.os := fun d os => Calls.regrown_of (evlive_any _ ((HP.out.below hG2).below (below_regrown w2 d os)))
    refine wp_region_quiet_below (by kernel_rfl) (by kernel_rfl) ?_
    repeat (first | quiet_step (exact k1 _ _) | quiet_step (exact k2 _ _) | quiet_step (exact k3 _ _) | quiet_step (exact k4 _ _) | quiet_step (exact k5 _ _) | quiet_step (exact k6 _ _) | quiet_step (exact k7 _ _) | quiet_step (exact k8 _ _))
    refine wpQuiet_nil ?_
    intro _ hw'
    obtain ⟨⟨dq, osq⟩, hw''⟩ := hw'
    subst hw''
    go_wp2
    go_ret
    exact ⟨rfl, Gr.trans hG2 (below_regrown w2 dq osq)⟩
theorem row_evputs (k t : Int) (a b : ByteArray) (w : World) (hk : (Lit.int .i64 k).wf = true) (_ : (Lit.int .i64 t).wf = true) (ha : a.size ≤ maxLen) (hb : b.size ≤ maxLen) (hP : Pow w) : Calls Tryd.prog 3 #[evV k t a b] w fun e w' => e = .returned (.bool true) ∧ Below w.heap.size w w' :=
  law_evputs k t a b w hP ((Lit.wf_int_iff .i64 k).1 hk).2 ha hb
end Go.Proofs.YteoidkjiigjlaaaDoor
