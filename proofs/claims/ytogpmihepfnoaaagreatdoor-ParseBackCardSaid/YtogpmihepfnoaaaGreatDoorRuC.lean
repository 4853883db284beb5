/- May rules be? the program's Check, and the reference's. -/
import Derived.Test.YtogpmihepfnoaaaGreatDoorRuM
import Derived.Maps.OwnSet
namespace Go.Proofs.YtogpmihepfnoaaaGreatDoor
open Go Go.RowKit Go.Sort Go.Maps

theorem gr_of_grx {w W w' : World} {g : Nat} (h : Gr w W) (hx : GrX W w' g) (hg : w.heap.size ≤ g) : Gr w w' := by
  refine ⟨hx.os.trans h.os, hx.tape.trans h.tape, hx.output.trans h.output, Nat.le_trans h.size hx.size, fun k hk => ?_⟩
  rw [hx.block k (Nat.lt_of_lt_of_le hk h.size) (fun e => by have := Option.some.inj e; omega)]
  exact h.block k hk
set_option maxRecDepth 100000 in
theorem pmay_any (x : Ex) (v : Value) (w : World) (hx : RdEx w (· < w.heap.size) x v) : Calls Tryz.prog 41 #[v] w fun e w' => e = .returned (.bool (mayX x 24 8).isSome) ∧ Gr w w' := by
  obtain ⟨op, days, mile, ks⟩ := x
  obtain ⟨A, c, vs, rfl, -⟩ := hx.form
  have hG : Gr w ((w.alloc (.cells #[.int .i64 op, .int .i64 days, .string mile, .slice A ks.length c] 45)).alloc (.cells #[.int .i64 24] 98)) := Gr.trans (Gr.alloc _ _) (Gr.alloc _ _)
  have hB := Blk.new (w.alloc (.cells #[.int .i64 op, .int .i64 days, .string mile, .slice A ks.length c] 45)) 98 #[.int .i64 24]
  rw [show (w.alloc (.cells #[.int .i64 op, .int .i64 days, .string mile, .slice A ks.length c] 45)).heap.size = w.heap.size + 1 by simp] at hB
  have hx2 : RdEx ((w.alloc (.cells #[.int .i64 op, .int .i64 days, .string mile, .slice A ks.length c] 45)).alloc (.cells #[.int .i64 24] 98)) (KX _ (w.heap.size + 1)) (.mk op days mile ks) (.agg #[.int .i64 op, .int .i64 days, .string mile, .slice A ks.length c]) :=
    RdEx.mono (fun b hb => ⟨Nat.lt_of_lt_of_le hb hG.size, by omega⟩) _ _ (RdEx.keep (fun p hp => hG.cell hp) _ _ hx)
  have cM := pmay_n _ (.mk op days mile ks) _ _ (w.heap.size + 1) 24 8 (Nat.le_refl _) hx2 hB (by omega) (by omega)
  have cM2 : Calls Tryz.prog 67 #[.pointer (some ⟨w.heap.size + 1, 0, none⟩), .agg #[.int .i64 op, .int .i64 days, .string mile, .slice A ks.length c], .int .i64 8] ((w.alloc (.cells #[.int .i64 op, .int .i64 days, .string mile, .slice A ks.length c] 45)).alloc (.cells #[.int .i64 24] 98)) fun e w' => e = .returned (.bool (mayX (.mk op days mile ks) 24 8).isSome) ∧ Gr w w' :=
    cM.mono fun e w' h => ⟨by rw [h.1]; simp, gr_of_grx hG h.2.1 (by omega)⟩
  clear cM hx2 hB hG hx
  generalize (mayX (.mk op days mile ks) 24 8).isSome = b at *
  go_enter Tryz.func41, Tryz.ntmps41
  go_wp2_with (go_at_call 67; (with_reducible refine cM2.mono ?_); rintro e w1 ⟨rfl, hb1⟩)
  go_ret
  exact ⟨rfl, hb1⟩
/-- May a rule be? -/
def okR (r : Ru) : Bool := decide (1 ≤ r.act ∧ r.act ≤ 3) && (decide (r.cls.size = 0) || nameD r.cls) && (mayX r.wh 24 8).isSome
/-- May rules be? -/
def checkD (rs : List Ru) : Int := if 12 < rs.length then 4 else if rs.all okR = true then (if (rs.map Ru.cls).Nodup then 0 else 6) else 1
theorem checkD_4 {rs : List Ru} (h : 12 < rs.length) : checkD rs = 4 := by rw [checkD, if_pos h]
theorem checkD_1 {rs : List Ru} (h : ¬ 12 < rs.length) {k : Nat} {x : Ru} (hk : rs[k]? = some x) (hx : okR x = false) : checkD rs = 1 := by
  rw [checkD, if_neg h, if_neg]
  intro ha
  rw [List.all_eq_true] at ha
  rw [ha x (List.mem_of_getElem? hk)] at hx
  cases hx
/-- The first k may be. -/
def OkTo (rs : List Ru) (k : Nat) : Prop := ∀ (j : Nat) (x : Ru), j < k → rs[j]? = some x → okR x = true
theorem OkTo.succ {rs : List Ru} {k : Nat} {x : Ru} (h : OkTo rs k) (hk : rs[k]? = some x) (hx : okR x = true) : OkTo rs (k + 1) := by
  intro j y hj hy
  rcases Nat.lt_or_ge j k with hlt | hge
  · exact h j y hlt hy
  · obtain rfl : j = k := by omega
    obtain rfl := Option.some.inj (hk.symm.trans hy)
    exact hx
theorem OkTo.all {rs : List Ru} (h : OkTo rs rs.length) : rs.all okR = true := by
  rw [List.all_eq_true]
  intro x hx
  obtain ⟨j, hj, rfl⟩ := List.getElem_of_mem hx
  exact h j _ hj (List.getElem?_eq_getElem hj)
theorem checkD_0 {rs : List Ru} (h : ¬ 12 < rs.length) (ha : rs.all okR = true) (hn : (rs.map Ru.cls).Nodup) : checkD rs = 0 := by rw [checkD, if_neg h, if_pos ha, if_pos hn]
theorem checkD_6 {rs : List Ru} (h : ¬ 12 < rs.length) (ha : rs.all okR = true) (hn : ¬ (rs.map Ru.cls).Nodup) : checkD rs = 6 := by rw [checkD, if_neg h, if_pos ha, if_neg hn]
theorem nodup_step {l : List ByteArray} {k : Nat} {s : ByteArray} (h : (l.take k).Nodup) (hk : l[k]? = some s) (hs : s ∉ l.take k) : (l.take (k + 1)).Nodup := by
  obtain ⟨hlt, rfl⟩ := List.getElem?_eq_some_iff.1 hk
  rw [List.take_succ_eq_append_getElem hlt, List.nodup_append]
  exact ⟨h, by simp, fun a ha b hb => by simp at hb; subst hb; rintro rfl; exact hs ha⟩
theorem nodup_no {l : List ByteArray} {k : Nat} {s : ByteArray} (hk : l[k]? = some s) (hs : s ∈ l.take k) : ¬ l.Nodup := by
  intro h
  obtain ⟨hlt, rfl⟩ := List.getElem?_eq_some_iff.1 hk
  have h2 : (l.take (k + 1)).Nodup := h.sublist (List.take_sublist _ _)
  rw [List.take_succ_eq_append_getElem hlt, List.nodup_append] at h2
  exact h2.2.2 _ hs _ (by simp) rfl
theorem cls_at {rs : List Ru} {k : Nat} {x : Ru} (h : rs[k]? = some x) : (rs.map Ru.cls)[k]? = some x.cls := by rw [List.getElem?_map, h]; rfl
theorem six_cells {W : World} {g : Nat} {T : TypeId} {x0 x1 x2 x3 x4 x5 : Value} (h : Blk W g T #[x0, x1, x2, x3, x4, x5]) : W.cell? ⟨g, 0, none⟩ = some x0 ∧ W.cell? ⟨g, 1, none⟩ = some x1 ∧ W.cell? ⟨g, 2, none⟩ = some x2 ∧ W.cell? ⟨g, 3, none⟩ = some x3 ∧ W.cell? ⟨g, 4, none⟩ = some x4 ∧ W.cell? ⟨g, 5, none⟩ = some x5 :=
  ⟨h.cell 0, h.cell 1, h.cell 2, h.cell 3, h.cell 4, h.cell 5⟩
/-- The ways of a rule. -/
theorem ru_ways (x : Ru) : (x.act < 1 ∧ okR x = false) ∨ (3 < x.act ∧ okR x = false) ∨ (1 ≤ x.act ∧ x.act ≤ 3 ∧ x.cls.size ≠ 0 ∧ nameD x.cls = false ∧ okR x = false) ∨
    (1 ≤ x.act ∧ x.act ≤ 3 ∧ (x.cls.size = 0 ∨ (x.cls.size ≠ 0 ∧ nameD x.cls = true)) ∧ okR x = (mayX x.wh 24 8).isSome) := by
  unfold okR
  by_cases h1 : 1 ≤ x.act ∧ x.act ≤ 3
  · rw [decide_eq_true h1, Bool.true_and]
    by_cases h2 : x.cls.size = 0
    · rw [decide_eq_true h2, Bool.true_or, Bool.true_and]
      exact .inr (.inr (.inr ⟨h1.1, h1.2, .inl h2, rfl⟩))
    · rw [decide_eq_false h2, Bool.false_or]
      cases h3 : nameD x.cls with
      | true => exact .inr (.inr (.inr ⟨h1.1, h1.2, .inr ⟨h2, rfl⟩, by rw [Bool.true_and]⟩))
      | false => exact .inr (.inr (.inl ⟨h1.1, h1.2, h2, rfl, by rw [Bool.false_and]⟩))
  · rw [decide_eq_false h1, Bool.false_and, Bool.false_and]
    rcases (by omega : x.act < 1 ∨ 3 < x.act) with h | h
    · exact .inl ⟨h, rfl⟩
    · exact .inr (.inl ⟨h, rfl⟩)
set_option maxRecDepth 100000 in
set_option maxHeartbeats 8000000 in
theorem rcheck_any (rs : List Ru) (v : Value) (w : World) (h : RdRus w (· < w.heap.size) v rs) : Calls Tryz.prog 18 #[v] w fun e w' => e = .returned (.int .i64 (checkD rs)) ∧ Gr w w' := by
  obtain ⟨A, c, rfl, hc, hcm⟩ := h.form
  unfold maxLen at hcm
  by_cases h12 : 12 < rs.length
  · rw [checkD_4 h12]
    go_enter Tryz.func18, Tryz.ntmps18
    go_wp2
    all_goals (try (exfalso; omega))
    go_ret
    exact ⟨rfl, Gr.refl _⟩
  · have hlen : rs.length ≤ 12 := by omega
    have HC1 := Lib.hid (fun k x (hk : rs[k]? = some x) (hx : okR x = false) => checkD_1 h12 hk hx)
    have HC0 := Lib.hid (fun (ha : rs.all okR = true) hn => checkD_0 h12 ha hn)
    have HC6 := Lib.hid (fun (ha : rs.all okR = true) hn => checkD_6 h12 ha hn)
    generalize checkD rs = q at *
    clear h12
    go_enter Tryz.func18, Tryz.ntmps18
    go_wp2
    all_goals (try (exfalso; omega))
    go_loopw [3] (fun v3 wr => ∃ k : Nat, v3 = .int .i64 (k : Int) ∧ k ≤ rs.length ∧ OkTo rs k ∧ Gr w wr) (fun v3 _ => rs.length - (intOf v3).toNat)
    case atStart => exact ⟨0, rfl, Nat.zero_le _, fun j x hj _ => absurd hj (by omega), Gr.refl _⟩
    case round =>
      obtain ⟨k, rfl, hk, hO, hgw⟩ := hrel
      by_cases hlt : k < rs.length
      · obtain ⟨x, hxk⟩ : ∃ x, rs[k]? = some x := ⟨_, List.getElem?_eq_getElem hlt⟩
        have hw := ru_ways x
        obtain ⟨ad, P, v0, v1, v2, v3, rfl, eP, hP, c0, c1, c2, c3, c4, c5, hs, hsx⟩ := (h.gr hgw).at_ k _ hxk
        obtain ⟨cl, wx, ac⟩ := x
        dsimp only at *
        have cN := fun W => refname_any cl W hs
        have cM := fun W hg => rmay_any wx _ W (hsx.gr hg)
        rcases hw with ⟨h1, h2⟩ | ⟨h1, h2⟩ | ⟨h1, h1', h3, h4, h2⟩ | ⟨h1, h1', h3, h2⟩
        iterate 2
          · have HQ := Lib.hid (HC1.out k _ hxk h2)
            clear hxk h2 hO cN cM
            go_wp2
            all_goals (try (exfalso; omega))
            go_ret
            exact ⟨ret_int HQ.out.symm, hgw⟩
        · have HQ := Lib.hid (HC1.out k _ hxk h2)
          obtain ⟨s1, s2, s3⟩ := str_nil h3
          simp only [h4] at cN
          have d1 : decide (ac < 1) = false := decide_eq_false (by omega)
          have d2 : decide (3 < ac) = false := decide_eq_false (by omega)
          clear hxk h2 hO cM h3 h4
          go_wp2_with (first
            | (go_at_call 29; (with_reducible refine (cN _).mono ?_); rintro e w1 ⟨rfl, rfl⟩))
          all_goals (try (exfalso; omega))
          go_ret
          exact ⟨ret_int HQ.out.symm, hgw⟩
        · have d1 : decide (ac < 1) = false := decide_eq_false (by omega)
          have d2 : decide (3 < ac) = false := decide_eq_false (by omega)
          generalize hmx : (mayX wx 24 8).isSome = mx at *
          rcases h3 with h3 | ⟨h3, h4⟩
          · obtain rfl := str_zero h3
            cases mx with
            | false =>
              have HQ := Lib.hid (HC1.out k _ hxk h2)
              clear hxk h2 hO cN h3 hmx
              go_wp2_with (go_at_call 30; (with_reducible refine (cM _ (Gr.refl _)).mono ?_); rintro e w1 ⟨rfl, hb1⟩)
              all_goals (try (exfalso; omega))
              go_ret
              exact ⟨ret_int HQ.out.symm, Gr.trans hgw hb1⟩
            | true =>
              have HO := Lib.hid (hO.succ hxk h2)
              clear hxk h2 hO cN h3 hmx
              go_wp2_with (go_at_call 30; (with_reducible refine (cM _ (Gr.refl _)).mono ?_); rintro e w1 ⟨rfl, hb1⟩)
              all_goals (try (exfalso; omega))
              go_roundw
              case rel => exact ⟨k + 1, by go_num, by omega, HO.out, Gr.trans hgw hb1⟩
              case measure => simp [intOf]; omega
          · obtain ⟨s1, s2, s3⟩ := str_nil h3
            simp only [h4] at cN
            cases mx with
            | false =>
              have HQ := Lib.hid (HC1.out k _ hxk h2)
              clear hxk h2 hO h3 h4 hmx
              go_wp2_with (first
                | (go_at_call 29; (with_reducible refine (cN _).mono ?_); rintro e w1 ⟨rfl, rfl⟩)
                | (go_at_call 30; (with_reducible refine (cM _ (Gr.refl _)).mono ?_); rintro e w1 ⟨rfl, hb1⟩))
              all_goals (try (exfalso; omega))
              go_ret
              exact ⟨ret_int HQ.out.symm, Gr.trans hgw hb1⟩
            | true =>
              have HO := Lib.hid (hO.succ hxk h2)
              clear hxk h2 hO h3 h4 hmx
              go_wp2_with (first
                | (go_at_call 29; (with_reducible refine (cN _).mono ?_); rintro e w1 ⟨rfl, rfl⟩)
                | (go_at_call 30; (with_reducible refine (cM _ (Gr.refl _)).mono ?_); rintro e w1 ⟨rfl, hb1⟩))
              all_goals (try (exfalso; omega))
              go_roundw
              case rel => exact ⟨k + 1, by go_num, by omega, HO.out, Gr.trans hgw hb1⟩
              case measure => simp [intOf]; omega
      · obtain rfl : k = rs.length := by omega
        have HA := Lib.hid hO.all
        clear hO
        go_wp2
        go_loopw [4] (fun v4 wr2 => ∃ i : Nat, v4 = .int .i64 (i : Int) ∧ i ≤ rs.length ∧ ((rs.map Ru.cls).take i).Nodup ∧ Gr w wr2) (fun v4 _ => rs.length - (intOf v4).toNat)
        case atStart => exact ⟨0, rfl, Nat.zero_le _, by simp, hgw⟩
        case round =>
          obtain ⟨i, rfl, hi, hN, hg2⟩ := hrel
          by_cases hil : i < rs.length
          · obtain ⟨x, hxi⟩ : ∃ x, rs[i]? = some x := ⟨_, List.getElem?_eq_getElem hil⟩
            have hci := cls_at hxi
            have HN := Lib.hid hN
            clear hN
            go_wp2
            go_loopw [5] (fun v5 wr3 => ∃ j : Nat, v5 = .int .i64 (j : Int) ∧ j ≤ i ∧ (∀ s ∈ (rs.map Ru.cls).take j, s ≠ x.cls) ∧ Gr w wr3) (fun v5 _ => i - (intOf v5).toNat)
            case atStart => exact ⟨0, rfl, Nat.zero_le _, by simp, hg2⟩
            case round =>
              obtain ⟨j, rfl, hj, hne, hg3⟩ := hrel
              by_cases hjl : j < i
              · obtain ⟨y, hyj⟩ : ∃ y, rs[j]? = some y := ⟨_, List.getElem?_eq_getElem (by omega)⟩
                obtain ⟨ad, P, v0, v1, v2, v3, rfl, eP, hP, c0, c1, c2, c3, c4, c5, hs, hsx⟩ := (h.gr hg3).at_ j _ hyj
                obtain ⟨ad', P', v0', v1', v2', v3', e', eP', hP', c0', c1', c2', c3', c4', c5', hs', hsx'⟩ := (h.gr hg3).at_ i _ hxi
                obtain rfl := Option.some.inj e'
                have hcj := cls_at hyj
                have hjlen : j < (rs.map Ru.cls).length := by rw [List.length_map]; omega
                have htk : (rs.map Ru.cls).take (j + 1) = (rs.map Ru.cls).take j ++ [y.cls] := by
                  obtain ⟨hl2, hy2⟩ := List.getElem?_eq_some_iff.1 hcj
                  rw [List.take_succ_eq_append_getElem hl2, hy2]
                by_cases hxy : y.cls = x.cls
                · have hmem : x.cls ∈ (rs.map Ru.cls).take i := by
                    rw [← hxy]
                    refine List.mem_of_getElem? (i := j) ?_
                    rw [List.getElem?_take_of_lt hjl]; exact hcj
                  have HQ := Lib.hid (HC6.out HA.out (nodup_no hci hmem))
                  rw [hxy] at c0
                  clear hxi hyj hci hcj hne htk hmem hxy
                  go_wp2
                  go_quiet (fail)
                  go_wp2
                  go_ret
                  exact ⟨ret_int HQ.out.symm, Gr.trans hg3 (Gr.drewN _ _)⟩
                · have hne2 : ∀ s ∈ (rs.map Ru.cls).take (j + 1), s ≠ x.cls := by
                    intro s hs
                    rw [htk] at hs
                    rcases List.mem_append.1 hs with h1 | h1
                    · exact hne s h1
                    · simp at h1; rw [h1]; exact hxy
                  have HNE := Lib.hid hne2
                  obtain ⟨s1, s2⟩ := str_neq hxy
                  have s3 : ¬ y.cls.toList = x.cls.toList := by simpa using s2
                  clear hxi hyj hci hcj hne htk hne2 hxy
                  go_wp2
                  go_quiet (fail)
                  go_wp2
                  go_roundw
                  case rel => exact ⟨j + 1, by go_num, by omega, HNE.out, Gr.trans hg3 (Gr.drewN _ _)⟩
                  case measure => simp [intOf]; omega
              · obtain rfl : j = i := by omega
                have HS := Lib.hid (nodup_step HN.out hci (fun hm => hne _ hm rfl))
                clear hne hci hxi
                go_wp2
                go_roundw
                case rel => exact ⟨j + 1, by go_num, by omega, HS.out, hg3⟩
                case measure => simp [intOf]; omega
          · obtain rfl : i = rs.length := by omega
            have hnd : (rs.map Ru.cls).Nodup := by
              rw [List.take_of_length_le (by rw [List.length_map]; exact Nat.le_refl _)] at hN
              exact hN
            have HQ := Lib.hid (HC0.out HA.out hnd)
            clear hN hnd
            go_wp2
            go_ret
            exact ⟨ret_int HQ.out.symm, hg2⟩
end Go.Proofs.YtogpmihepfnoaaaGreatDoor
