/- Are conditions, and rules, the same? the reference's answer. -/
import Derived.Test.YtogpmihepfnoaaaGreatDoorRuI
namespace Go.Proofs.YtogpmihepfnoaaaGreatDoor
open Go Go.RowKit Go.Sort

set_option maxRecDepth 100000 in
set_option maxHeartbeats 8000000 in
theorem rsame_n : ∀ (N : Nat) (x y : Ex) (v v' : Value) (w : World), SizeOf.sizeOf x ≤ N → RdEx w (· < w.heap.size) x v → RdEx w (· < w.heap.size) y v' →
    Calls Tryz.prog 16 #[v, v'] w fun e w' => e = .returned (.bool (exEq x y)) ∧ Gr w w'
  | 0, .mk op days mile ks, y, v, v', w, hN, _, _ => by
    have : 0 < SizeOf.sizeOf (Ex.mk op days mile ks) := by rw [Ex.mk.sizeOf_spec]; omega
    omega
  | N + 1, .mk op days mile ks, .mk op' days' mile' ls, v, v', w, hN, hx, hy => by
    have ih := rsame_n N
    obtain ⟨A, c, vs, rfl, ⟨hc, hcm, hms⟩, hr, hl⟩ := hx.form
    obtain ⟨A', c', vs', rfl, ⟨hc', hcm', hms'⟩, hr', hl'⟩ := hy.form
    clear hx hy
    unfold maxLen at hcm
    have hsz : ∀ (k : Nat) (x : Ex), ks[k]? = some x → SizeOf.sizeOf x ≤ N := by
      intro k x hx
      have h1 := List.sizeOf_lt_of_mem (List.mem_of_getElem? hx)
      have h2 : SizeOf.sizeOf (Ex.mk op days mile ks) = 1 + SizeOf.sizeOf op + SizeOf.sizeOf days + SizeOf.sizeOf mile + SizeOf.sizeOf ks := Ex.mk.sizeOf_spec op days mile ks
      omega
    have hG2 : ∀ o1 o2, Gr w ((w.alloc o1).alloc o2) := fun o1 o2 => Gr.trans (Gr.alloc _ _) (Gr.alloc _ _)
    by_cases ho : op = op'
    · by_cases hd : days = days'
      · by_cases hm : mile = mile'
        · rw [exEq_mk ho hd hm]
          subst ho hd hm
          by_cases hlen : ks.length = ls.length
          · have HL := Lib.hid hlen
            have h1 : (((ks.length : Nat) : Int) != ((ls.length : Nat) : Int)) = false := by simp [hlen]
            clear hlen
            generalize hE : exEqL ks ls = E
            have HE1 := Lib.hid (fun (h : ks = ls) => (by rw [← hE, h, exEqL_refl] : E = true))
            have HE0 := Lib.hid (fun (h : ks ≠ ls) => (by rw [← hE, exEqL_no h] : E = false))
            clear hE
            go_enter Tryz.func16, Tryz.ntmps16
            go_wp2
            go_loopw [5] (fun v5 wr => ∃ k : Nat, v5 = .int .i64 (k : Int) ∧ k ≤ ks.length ∧ ks.take k = ls.take k ∧ Gr w wr ∧ wr.cell? ⟨w.heap.size, 3, none⟩ = some (.slice A ks.length c) ∧ wr.cell? ⟨w.heap.size + 1, 3, none⟩ = some (.slice A' ls.length c')) (fun v5 _ => ks.length - (intOf v5).toNat)
            case atStart =>
              refine ⟨0, rfl, Nat.zero_le _, by simp, hG2 _ _, ((Blk.new w 45 _).alloc _).cell 3, ?_⟩
              have h := (Blk.new (w.alloc (.cells #[.int .i64 op, .int .i64 days, .string mile, .slice A ks.length c] 45)) 45 #[.int .i64 op, .int .i64 days, .string mile, .slice A' ls.length c']).cell 3
              rwa [show (w.alloc (.cells #[.int .i64 op, .int .i64 days, .string mile, .slice A ks.length c] 45)).heap.size = w.heap.size + 1 by simp] at h
            case round =>
              obtain ⟨k, rfl, hk, hT, hgw, b0, b1⟩ := hrel
              have hb0 := block_lt_of_cell b0
              have hb1l := block_lt_of_cell b1
              by_cases hlt : k < ks.length
              · obtain ⟨x, hxk⟩ : ∃ x, ks[k]? = some x := ⟨_, List.getElem?_eq_getElem hlt⟩
                have hlt' : k < ls.length := by rw [← HL.out]; exact hlt
                obtain ⟨y, hyk⟩ : ∃ y, ls[k]? = some y := ⟨_, List.getElem?_eq_getElem hlt'⟩
                obtain ⟨ad, P, v0, v1, v2, v3, rfl, eP, hP, c0, c1, c2, c3, hsx⟩ := ex_cells (hr.gr hgw) (hl.gr hgw) rfl k x hxk
                obtain ⟨ad', P', u0, u1, u2, u3, rfl, eP', hP', d0, d1, d2, d3, hsy⟩ := ex_cells (hr'.gr hgw) (hl'.gr hgw) rfl k y hyk
                have k1 : ∀ d os, Calls Tryz.prog 16 #[.agg #[v0, v1, v2, v3], .agg #[u0, u1, u2, u3]] (grow (redrawn wr d) os) fun e w'' => e = .returned (.bool (exEq x y)) ∧ ∃ p : Regrown, w'' = grow (redrawn wr p.d) p.os := fun d os => Calls.regrown_of (ih x y _ _ _ (hsz k x hxk) (hsx.gr (below_regrown wr d os)) (hsy.gr (below_regrown wr d os)))
                have qb0 := cell_regrown b0
                have qb1 := cell_regrown b1
                have qc0 := cell_regrown c0
                have qc1 := cell_regrown c1
                have qc2 := cell_regrown c2
                have qc3 := cell_regrown c3
                have qd0 := cell_regrown d0
                have qd1 := cell_regrown d1
                have qd2 := cell_regrown d2
                have qd3 := cell_regrown d3
                by_cases hxy : x = y
                · have HT := Lib.hid (take_eq hT hxk hyk hxy)
                  have hb : exEq x y = true := by rw [hxy, exEq_refl]
                  simp only [hb] at k1
                  clear hT hxk hyk hxy hb
                  go_wp2
                  refine wp_region_quiet_below (by kernel_rfl) (by kernel_rfl) ?_
                  repeat (go_big_quiet_step (with_reducible exact k1 _ _))
                  refine wpQuiet_nil ?_
                  intro _ hw'
                  obtain ⟨⟨dq, osq⟩, hw''⟩ := hw'
                  subst hw''
                  go_wp2
                  go_roundw
                  case rel => exact ⟨k + 1, by go_num, by omega, HT.out, Gr.trans hgw (below_regrown wr dq osq), cell_regrown b0 dq osq, cell_regrown b1 dq osq⟩
                  case measure => simp [intOf]; omega
                · have HN := Lib.hid (HE0.out (at_ne hxk hyk hxy))
                  have hb : exEq x y = false := exEq_no hxy
                  simp only [hb] at k1
                  clear hT hxk hyk hxy hb
                  go_wp2
                  refine wp_region_quiet_below (by kernel_rfl) (by kernel_rfl) ?_
                  repeat (go_big_quiet_step (with_reducible exact k1 _ _))
                  refine wpQuiet_nil ?_
                  intro _ hw'
                  obtain ⟨⟨dq, osq⟩, hw''⟩ := hw'
                  subst hw''
                  go_wp2
                  go_ret
                  exact ⟨ret_bool HN.out.symm, Gr.trans hgw (below_regrown wr dq osq)⟩
              · obtain rfl : k = ks.length := by omega
                have HN := Lib.hid (HE1.out (take_all hT HL.out))
                clear hT
                go_wp2
                go_ret
                exact ⟨ret_bool HN.out.symm, hgw⟩
          · have h1 : (((ks.length : Nat) : Int) != ((ls.length : Nat) : Int)) = true := by simp; omega
            rw [exEqL_no (fun e => hlen (by rw [e]))]
            clear hlen
            go_enter Tryz.func16, Tryz.ntmps16
            go_wp2
            go_ret
            exact ⟨rfl, hG2 _ _⟩
        · rw [exEq_no (fun e => hm (by injection e))]
          obtain ⟨h1, h2⟩ := str_neq hm
          have h3 : ¬ mile.toList = mile'.toList := by simpa using h2
          subst ho hd
          clear hm
          go_enter Tryz.func16, Tryz.ntmps16
          go_wp2
          go_ret
          exact ⟨rfl, hG2 _ _⟩
      · rw [exEq_no (fun e => hd (by injection e))]
        have h1 : (days == days') = false := by simp [hd]
        have h2 : (days != days') = true := by simp [hd]
        have h3 : decide (days = days') = false := by simp [hd]
        subst ho
        clear hd
        go_enter Tryz.func16, Tryz.ntmps16
        go_wp2
        go_ret
        exact ⟨rfl, hG2 _ _⟩
    · rw [exEq_no (fun e => ho (by injection e))]
      have h1 : (op == op') = false := by simp [ho]
      have h2 : (op != op') = true := by simp [ho]
      have h3 : decide (op = op') = false := by simp [ho]
      clear ho
      go_enter Tryz.func16, Tryz.ntmps16
      go_wp2
      go_ret
      exact ⟨rfl, hG2 _ _⟩
set_option maxRecDepth 100000 in
set_option maxHeartbeats 8000000 in
theorem rsame_any (rs ss : List Ru) (v v' : Value) (w : World) (h : RdRus w (· < w.heap.size) v rs) (h' : RdRus w (· < w.heap.size) v' ss) :
    Calls Tryz.prog 10 #[v, v'] w fun e w' => e = .returned (.bool (ruEq rs ss)) ∧ Gr w w' := by
  obtain ⟨A, c, rfl, hc, hcm⟩ := h.form
  obtain ⟨A', c', rfl, hc', hcm'⟩ := h'.form
  unfold maxLen at hcm
  by_cases hlen : rs.length = ss.length
  · have HL := Lib.hid hlen
    have h1 : (((rs.length : Nat) : Int) != ((ss.length : Nat) : Int)) = false := by simp [hlen]
    clear hlen
    generalize hE : ruEq rs ss = E
    have HE1 := Lib.hid (fun (h : rs = ss) => (by rw [← hE, h, ruEq_refl] : E = true))
    have HE0 := Lib.hid (fun (h : rs ≠ ss) => (by rw [← hE, ruEq_no h] : E = false))
    clear hE
    go_enter Tryz.func10, Tryz.ntmps10
    go_wp2
    go_loopw [5] (fun v5 wr => ∃ k : Nat, v5 = .int .i64 (k : Int) ∧ k ≤ rs.length ∧ rs.take k = ss.take k ∧ Gr w wr) (fun v5 _ => rs.length - (intOf v5).toNat)
    case atStart => exact ⟨0, rfl, Nat.zero_le _, by simp, Gr.refl _⟩
    case round =>
      obtain ⟨k, rfl, hk, hT, hgw⟩ := hrel
      by_cases hlt : k < rs.length
      · obtain ⟨x, hxk⟩ : ∃ x, rs[k]? = some x := ⟨_, List.getElem?_eq_getElem hlt⟩
        have hlt' : k < ss.length := by rw [← HL.out]; exact hlt
        obtain ⟨y, hyk⟩ : ∃ y, ss[k]? = some y := ⟨_, List.getElem?_eq_getElem hlt'⟩
        obtain ⟨ad, P, v0, v1, v2, v3, rfl, eP, hP, c0, c1, c2, c3, c4, c5, hs, hsx⟩ := (h.gr hgw).at_ k _ hxk
        obtain ⟨ad', P', u0, u1, u2, u3, rfl, eP', hP', d0, d1, d2, d3, d4, d5, hs', hsy⟩ := (h'.gr hgw).at_ k _ hyk
        obtain ⟨cl, wx, ac⟩ := x
        obtain ⟨cl', wx', ac'⟩ := y
        dsimp only at *
        have k1 : ∀ d os, Calls Tryz.prog 16 #[.agg #[v0, v1, v2, v3], .agg #[u0, u1, u2, u3]] (grow (redrawn wr d) os) fun e w'' => e = .returned (.bool (exEq wx wx')) ∧ ∃ p : Regrown, w'' = grow (redrawn wr p.d) p.os := fun d os => Calls.regrown_of (rsame_n _ wx wx' _ _ _ (Nat.le_refl _) (hsx.gr (below_regrown wr d os)) (hsy.gr (below_regrown wr d os)))
        have qc0 := cell_regrown c0
        have qc1 := cell_regrown c1
        have qc2 := cell_regrown c2
        have qc3 := cell_regrown c3
        have qc4 := cell_regrown c4
        have qc5 := cell_regrown c5
        have qd0 := cell_regrown d0
        have qd1 := cell_regrown d1
        have qd2 := cell_regrown d2
        have qd3 := cell_regrown d3
        have qd4 := cell_regrown d4
        have qd5 := cell_regrown d5
        by_cases hcl : cl = cl'
        · by_cases hac : ac = ac'
          · by_cases hwx : wx = wx'
            · have HT := Lib.hid (take_eq hT hxk hyk (by rw [hcl, hac, hwx]))
              have hb : exEq wx wx' = true := by rw [hwx, exEq_refl]
              simp only [hb] at k1
              subst hcl hac
              clear hT hxk hyk hwx hb hsx hsy
              go_wp2
              refine wp_region_quiet_below (by kernel_rfl) (by kernel_rfl) ?_
              repeat (go_big_quiet_step (with_reducible exact k1 _ _))
              refine wpQuiet_nil ?_
              intro _ hw'
              obtain ⟨⟨dq, osq⟩, hw''⟩ := hw'
              subst hw''
              go_wp2
              go_roundw
              case rel => exact ⟨k + 1, by go_num, by omega, HT.out, Gr.trans hgw (below_regrown wr dq osq)⟩
              case measure => simp [intOf]; omega
            · have HN := Lib.hid (HE0.out (at_ne hxk hyk (fun e => hwx (by injection e))))
              have hb : exEq wx wx' = false := exEq_no hwx
              simp only [hb] at k1
              subst hcl hac
              clear hT hxk hyk hwx hb hsx hsy
              go_wp2
              refine wp_region_quiet_below (by kernel_rfl) (by kernel_rfl) ?_
              repeat (go_big_quiet_step (with_reducible exact k1 _ _))
              refine wpQuiet_nil ?_
              intro _ hw'
              obtain ⟨⟨dq, osq⟩, hw''⟩ := hw'
              subst hw''
              go_wp2
              go_ret
              exact ⟨ret_bool HN.out.symm, Gr.trans hgw (below_regrown wr dq osq)⟩
          · have HN := Lib.hid (HE0.out (at_ne hxk hyk (fun e => hac (by injection e))))
            have h2 : (ac == ac') = false := by simp [hac]
            have h3 : (ac != ac') = true := by simp [hac]
            have h4 : decide (ac = ac') = false := by simp [hac]
            subst hcl
            clear hT hxk hyk hac hsx hsy
            go_wp2
            refine wp_region_quiet_below (by kernel_rfl) (by kernel_rfl) ?_
            repeat (go_big_quiet_step (with_reducible exact k1 _ _))
            refine wpQuiet_nil ?_
            intro _ hw'
            obtain ⟨⟨dq, osq⟩, hw''⟩ := hw'
            subst hw''
            go_wp2
            go_ret
            exact ⟨ret_bool HN.out.symm, Gr.trans hgw (below_regrown wr dq osq)⟩
        · have HN := Lib.hid (HE0.out (at_ne hxk hyk (fun e => hcl (by injection e))))
          obtain ⟨s1, s2⟩ := str_neq hcl
          have s3 : ¬ cl.toList = cl'.toList := by simpa using s2
          have s4 : (cl.toList != cl'.toList) = true := by simpa using s2
          clear hT hxk hyk hcl hsx hsy
          go_wp2
          refine wp_region_quiet_below (by kernel_rfl) (by kernel_rfl) ?_
          repeat (go_big_quiet_step (with_reducible exact k1 _ _))
          refine wpQuiet_nil ?_
          intro _ hw'
          obtain ⟨⟨dq, osq⟩, hw''⟩ := hw'
          subst hw''
          go_wp2
          go_ret
          exact ⟨ret_bool HN.out.symm, Gr.trans hgw (below_regrown wr dq osq)⟩
      · obtain rfl : k = rs.length := by omega
        have HN := Lib.hid (HE1.out (take_all hT HL.out))
        clear hT
        go_wp2
        go_ret
        exact ⟨ret_bool HN.out.symm, hgw⟩
  · have h1 : (((rs.length : Nat) : Int) != ((ss.length : Nat) : Int)) = true := by simp; omega
    rw [ruEq_no (fun e => hlen (by rw [e]))]
    clear hlen
    go_enter Tryz.func10, Tryz.ntmps10
    go_wp2
    go_ret
    exact ⟨rfl, Gr.refl _⟩
end Go.Proofs.YtogpmihepfnoaaaGreatDoor
