/- Rules as a text: the reference's Print. -/
import Derived.Test.YtogpmihepfnoaaaGreatDoorRuG
namespace Go.Proofs.YtogpmihepfnoaaaGreatDoor
open Go Go.RowKit Go.Sort

theorem rule_ba {S E T : ByteArray} {l c : List UInt8} {r : Ru} (hS : ba l = S) (hE : ba (exprL r.wh) = E) (hT : ba (actL r.act) = T) : S ++ ba c ++ ⟨#[32, 107, 101, 101, 112, 32]⟩ ++ E ++ ⟨#[32, 116, 104, 101, 110, 32]⟩ ++ T ++ ⟨#[59, 10]⟩ = ba (l ++ (c ++ tailL r)) := by
  rw [← hS, ← hE, ← hT]
  show ba l ++ ba c ++ ba [32, 107, 101, 101, 112, 32] ++ _ ++ ba [32, 116, 104, 101, 110, 32] ++ _ ++ ba [59, 10] = _
  rw [ba_app, ba_app, ba_app, ba_app, ba_app, ba_app]
  unfold tailL
  simp only [List.append_assoc]
theorem cls_ba_app {S c : ByteArray} (h : c.size ≠ 0) : S ++ ⟨#[99, 108, 97, 115, 115, 32, 34]⟩ ++ c ++ ⟨#[34]⟩ = S ++ ba (clsL c) := by
  rw [← cls_ba h, ByteArray.append_assoc, ByteArray.append_assoc, ByteArray.append_assoc]
set_option maxRecDepth 100000 in
set_option maxHeartbeats 8000000 in
theorem rprint_any (rs : List Ru) (v : Value) (w : World) (h : RdRus w (· < w.heap.size) v rs) : Calls Tryz.prog 13 #[v] w fun e w' => e = .returned (.tuple #[.string (ba (printD rs).1), .int .i64 (printD rs).2]) ∧ Gr w w' := by
  obtain ⟨A, c, rfl, hc, hcm⟩ := h.form
  have cC := rcheck_any rs _ w h
  by_cases h0 : checkD rs = 0
  · obtain ⟨h12, hok⟩ := checkD_ok h0
    have hlenP : ∀ k, (printL (rs.take k)).length ≤ 800000 := fun k => by
      have h1 := printL_len (rs := rs.take k) (fun r hr => hok r (List.mem_of_mem_take hr))
      rw [List.length_take] at h1
      omega
    have HOK := Lib.hid hok
    have HLP := Lib.hid hlenP
    have hpd : printD rs = if 600 < (printL rs).length then ([], 3) else (printL rs, 0) := by rw [printD, if_neg (fun h => h h0)]
    rw [h0] at cC
    rw [hpd]
    have htk : rs.take rs.length = rs := List.take_length
    have HTK := Lib.hid htk
    clear hok hlenP h0 hpd htk
    generalize hOut : (if 600 < (printL rs).length then (([], 3) : List UInt8 × Int) else (printL rs, 0)) = out
    have HOut := Lib.hid hOut
    clear hOut
    go_enter Tryz.func13, Tryz.ntmps13
    go_wp2_with (go_at_call 18; (with_reducible refine cC.mono ?_); rintro e w1 ⟨rfl, hb1⟩)
    go_loopw [5, 6] (fun v5 v6 wr => ∃ k : Nat, v6 = .int .i64 (k : Int) ∧ v5 = .string (ba (printL (rs.take k))) ∧ k ≤ rs.length ∧ Gr w wr) (fun _ v6 _ => rs.length - (intOf v6).toNat)
    case atStart => exact ⟨0, rfl, rfl, Nat.zero_le _, hb1⟩
    case round =>
      obtain ⟨k, rfl, rfl, hk, hgw⟩ := hrel
      by_cases hlt : k < rs.length
      · obtain ⟨x, hxk⟩ : ∃ x, rs[k]? = some x := ⟨_, List.getElem?_eq_getElem hlt⟩
        have hokx := HOK.out x (List.mem_of_getElem? hxk)
        obtain ⟨hcs, m, hmx⟩ := okR_parts hokx
        have hEb := ex_bound hmx (by omega)
        have hAb := actL_len x.act
        have hPT := printL_take hxk
        have hPb := HLP.out k
        obtain ⟨ad, P, v0, v1, v2, v3, rfl, eP, hP, c0, c1, c2, c3, c4, c5, hs, hsx⟩ := (h.gr hgw).at_ k _ hxk
        have hEE : (ba (exprL x.wh)).size ≤ 60000 := by rw [ba_size]; exact hEb
        have hAA : (ba (actL x.act)).size ≤ 7 := by rw [ba_size]; exact hAb
        have hSS : (ba (printL (rs.take k))).size ≤ 800000 := by rw [ba_size]; exact hPb
        have cE := fun W hg => rexpr_n _ x.wh _ W 24 8 m (Nat.le_refl _) (hsx.gr hg) (by omega) hmx
        have cA := fun W => ract_any x.act W
        have hcb := fun S => @cls_ba_app S x.cls
        have hxr : ruleL x = clsL x.cls ++ tailL x := rfl
        rw [hxr] at hPT
        have heq := fun S E T (h1 : ba (printL (rs.take k)) = S) (h2 : ba (exprL x.wh) = E) (h3 : ba (actL x.act) = T) => rule_ba (c := clsL x.cls) (r := x) h1 h2 h3
        generalize hE : ba (exprL x.wh) = E at *
        generalize hT : ba (actL x.act) = T at *
        generalize hS : ba (printL (rs.take k)) = S at *
        have HEQ := Lib.hid (heq S E T rfl rfl rfl)
        have HPT := Lib.hid (congrArg ba hPT)
        have k1 : ∀ d os, Calls Tryz.prog 19 #[.agg #[v0, v1, v2, v3]] (grow (redrawn wr d) os) fun e w'' => e = .returned (.string E) ∧ ∃ p : Regrown, w'' = grow (redrawn wr p.d) p.os := fun d os => Calls.regrown_of (cE _ (below_regrown wr d os))
        have k2 : ∀ d os, Calls Tryz.prog 20 #[.int .i64 x.act] (grow (redrawn wr d) os) fun e w'' => e = .returned (.string T) ∧ ∃ p : Regrown, w'' = grow (redrawn wr p.d) p.os := fun d os => (cA _).mono fun _ _ h => ⟨h.1, ⟨d, os⟩, h.2.symm⟩
        have p0 := cell_regrown c0
        have p1 := cell_regrown c1
        have p2 := cell_regrown c2
        have p3 := cell_regrown c3
        have p4 := cell_regrown c4
        have p5 := cell_regrown c5
        obtain ⟨cl, wx, ac⟩ := x
        dsimp only at *
        clear hokx hPT hxk heq hmx cE cA hsx hE hT hS
        by_cases hz : cl.size = 0
        · obtain rfl := str_zero hz

          clear hcb hz

          have z1 : ¬ 9223372036854775807 < S.size + 7 := by omega
          have y1 : ¬ 9223372036854775807 < S.size + 7 + 6 := by omega
          have y2 : ¬ 9223372036854775807 < S.size + 7 + 6 + E.size := by omega
          have y3 : ¬ 9223372036854775807 < S.size + 7 + 6 + E.size + 6 := by omega
          have y4 : ¬ 9223372036854775807 < S.size + 7 + 6 + E.size + 6 + T.size := by omega
          have y5 : ¬ 9223372036854775807 < S.size + 7 + 6 + E.size + 6 + T.size + 2 := by omega
          go_wp2
          refine wp_region_quiet_below (by kernel_rfl) (by kernel_rfl) ?_
          repeat (first | quiet_step (with_reducible exact k1 _ _) | quiet_step (with_reducible exact k2 _ _))
          refine wpQuiet_nil ?_
          intro _ hw'
          obtain ⟨⟨dq, osq⟩, hw''⟩ := hw'
          subst hw''
          go_wp2
          go_roundw
          case rel => exact ⟨k + 1, by go_num, congrArg Value.string (by rw [HPT.out, ← HEQ.out]; rfl), by omega, Gr.trans hgw (below_regrown wr dq osq)⟩
          case measure => simp [intOf]; omega
        · have hSc := hcb S hz
          have HSC := Lib.hid hSc
          obtain ⟨s1, s2, s3⟩ := str_nil hz
          have x1 : ¬ 9223372036854775807 < S.size + 7 := by omega
          have x2 : ¬ 9223372036854775807 < S.size + 7 + cl.size := by omega
          clear hcb hz hSc
          have z1 : ¬ 9223372036854775807 < S.size + 7 + cl.size + 1 := by omega
          have y1 : ¬ 9223372036854775807 < S.size + 7 + cl.size + 1 + 6 := by omega
          have y2 : ¬ 9223372036854775807 < S.size + 7 + cl.size + 1 + 6 + E.size := by omega
          have y3 : ¬ 9223372036854775807 < S.size + 7 + cl.size + 1 + 6 + E.size + 6 := by omega
          have y4 : ¬ 9223372036854775807 < S.size + 7 + cl.size + 1 + 6 + E.size + 6 + T.size := by omega
          have y5 : ¬ 9223372036854775807 < S.size + 7 + cl.size + 1 + 6 + E.size + 6 + T.size + 2 := by omega
          go_wp2
          refine wp_region_quiet_below (by kernel_rfl) (by kernel_rfl) ?_
          repeat (first | quiet_step (with_reducible exact k1 _ _) | quiet_step (with_reducible exact k2 _ _))
          refine wpQuiet_nil ?_
          intro _ hw'
          obtain ⟨⟨dq, osq⟩, hw''⟩ := hw'
          subst hw''
          go_wp2
          go_roundw
          case rel => exact ⟨k + 1, by go_num, congrArg Value.string (by rw [HPT.out, ← HEQ.out, ← HSC.out]), by omega, Gr.trans hgw (below_regrown wr dq osq)⟩
          case measure => simp [intOf]; omega
      · obtain rfl : k = rs.length := by omega
        have hl := HLP.out rs.length
        rw [HTK.out] at hl
        rw [HTK.out]
        have hout := HOut.out
        have hsz : (ba (printL rs)).size = (printL rs).length := ba_size _
        by_cases h600 : 600 < (printL rs).length
        · rw [if_pos h600] at hout
          have HO := Lib.hid hout
          have h6 : (600 : Int) < ((ba (printL rs)).size : Int) := by omega
          clear hout hsz
          generalize ba (printL rs) = S at *
          go_wp2
          all_goals (try (exfalso; omega))
          exact bodyPost_ret (v := .tuple #[.string ⟨#[]⟩, .int .i64 3]) (by simp [results, Tryz.results13, go_sem]) rfl ⟨by rw [← HO.out]; rfl, hgw⟩
        · rw [if_neg h600] at hout
          have HO := Lib.hid hout
          have h6 : ((ba (printL rs)).size : Int) ≤ 600 := by omega
          clear hout hsz
          generalize hS : ba (printL rs) = S at *
          have HS := Lib.hid hS
          clear hS
          go_wp2
          all_goals (try (exfalso; omega))
          exact bodyPost_ret (v := .tuple #[.string S, .int .i64 0]) (by simp [results, Tryz.results13, go_sem]) rfl ⟨by rw [← HO.out, ← HS.out], hgw⟩
  · have hpd : printD rs = ([], checkD rs) := by rw [printD, if_pos h0]
    rw [hpd]
    generalize checkD rs = q at *
    have e1 : (q == 0) = false := by simp [h0]
    have e2 : (q != 0) = true := by simp [h0]
    have e3 : decide (q = 0) = false := by simp [h0]
    clear h0 hpd
    go_enter Tryz.func13, Tryz.ntmps13
    go_wp2_with (go_at_call 18; (with_reducible refine cC.mono ?_); rintro e w1 ⟨rfl, hb1⟩)
    exact bodyPost_ret (v := .tuple #[.string ⟨#[]⟩, .int .i64 q]) (by simp [results, Tryz.results13, go_sem]) rfl ⟨rfl, hb1⟩
end Go.Proofs.YtogpmihepfnoaaaGreatDoor
