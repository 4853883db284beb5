/- May rules be? the program's Check. -/
import Derived.Test.YtogpmihepfnoaaaGreatDoorRuC
namespace Go.Proofs.YtogpmihepfnoaaaGreatDoor
open Go Go.RowKit Go.Sort Go.Maps

theorem plainElem_bool_inv {H : Type} {P : Program} {e : TypeId} (he : P.underlying e = some .bool) {v : Value} {c : Bool} {ps : List MemPlace} (h : plainElem (H := H) P e v = some (.lit (.bool c), ps)) : v = .bool c := by
  unfold plainElem at h
  rw [he] at h
  cases v <;> simp at h
  rw [h.1]
theorem wpList_lookup_own_bool {H : Type} {P : Program} (w : World) {ops : Array Oper} {rest : List Oper} {o : Oper} {a : Act} {Q : Exit → Act → World → Prop}
    (hg : o.guard = none) (m x : Operand) (t : TypeId) (hop : o.op = Op.lookup t m x false)
    (k e : TypeId) (K : Keyed P k) (ht : P.underlying t = some (.map k e)) (he : P.underlying e = some .bool) (hz : (zeroValue e).run P w = .ok (.bool false) w) (b n : Nat) (D : DataW H)
    (hm : a.eval m = .map (some b)) (hown : w.ownsMap P k (plainElem P e) b n D) (key : Value) (kl : Lit) (hx : a.eval x = key) (hkey : keyOf P k key = some kl) (c : Bool) (hc : D.atKey kl (.lit (.bool false)) = .lit (.bool c))
    (hK : wpList P ops Q rest (a.put o.dst (.bool c)) w) : wpList P ops Q (o :: rest) a w := by
  refine wpList_plain hg fun K' hK' => ?_
  obtain ⟨v, ps, hrun, hv⟩ := hown.lookup K ht hz (plainElem_bool he false) hkey
  rw [hc] at hv
  obtain rfl := plainElem_bool_inv he hv
  unfold Oper.wp
  simp [execOp, hop, hm, hx, hrun, Result.andThen]
  exact hK' _ _ hK
theorem RdEx.four {w : World} {K : Nat → Prop} {x : Ex} {v0 v1 v2 v3 : Value} (h : RdEx w K x (.agg #[v0, v1, v2, v3])) : ∃ (op days : Int) (mile : ByteArray) (A : Option Addr) (n c : Nat), v0 = .int .i64 op ∧ v1 = .int .i64 days ∧ v2 = .string mile ∧ v3 = .slice A n c := by
  obtain ⟨op, days, mile, ks⟩ := x
  obtain ⟨A, c, vs, e, -⟩ := h.form
  injection e with e
  injection e with e
  simp only [List.cons.injEq, and_true] at e
  exact ⟨op, days, mile, A, ks.length, c, e⟩
def hasB (l : List ByteArray) (s : ByteArray) : Bool := l.any fun x => decide (x = s)
theorem hasB_iff {l : List ByteArray} {s : ByteArray} : hasB l s = true ↔ s ∈ l := by
  unfold hasB
  rw [List.any_eq_true]
  simp
theorem hasB_no {l : List ByteArray} {s : ByteArray} (h : s ∉ l) : hasB l s = false := by
  rw [Bool.eq_false_iff]
  exact fun e => h (hasB_iff.1 e)
/-- The names that a map of yes and no holds. -/
def Seen (D : DataW Unit) (l : List ByteArray) : Prop := ∀ s : ByteArray, D.atKey (.string s.data.toList) (.lit (.bool false)) = .lit (.bool (hasB l s))
theorem Seen.nil : Seen (.map []) [] := fun s => by
  rw [atKey_of_not_has (by rw [has_eq]; rfl)]
  rfl
theorem ba_inj {a b : ByteArray} (h : a.data.toList = b.data.toList) : a = b := by
  cases a; cases b; simp_all [Array.toList_inj]
theorem Seen.put {D : DataW Unit} {l : List ByteArray} (h : Seen D l) (hm : IsMap D) (x : ByteArray) : Seen (D.put (.string x.data.toList) (.lit (.bool true))) (l ++ [x]) := by
  intro s
  by_cases e : s = x
  · subst e
    rw [atKey_put_same hm (by trivial), hasB_iff.2 (by simp)]
  · rw [atKey_put_other (fun e2 => e (ba_inj (by injection e2))), h s]
    unfold hasB
    rw [List.any_append]
    have e2 : decide (x = s) = false := decide_eq_false (fun h2 => e h2.symm)
    simp [e2]
theorem key9 : Keyed Tryz.prog 9 := string_keyed Tryz.underlying9
theorem zero4 (w : World) : (zeroValue 4).run Tryz.prog w = .ok (.bool false) w := by kernel_rfl
set_option maxRecDepth 100000 in
set_option maxHeartbeats 8000000 in
theorem pcheck_any (rs : List Ru) (v : Value) (w : World) (h : RdRus w (· < w.heap.size) v rs) : Calls Tryz.prog 25 #[v] w fun e w' => e = .returned (.int .i64 (checkD rs)) ∧ Gr w w' := by
  obtain ⟨A, c, rfl, hc, hcm⟩ := h.form
  have hmm := @run_makeMap Tryz.prog
  by_cases h12 : 12 < rs.length
  · rw [checkD_4 h12]
    unfold maxLen at hcm
    go_enter Tryz.func25, Tryz.ntmps25
    go_wp2
    all_goals (try (exfalso; omega))
    go_ret
    exact ⟨rfl, Gr.refl _⟩
  · have hlen : rs.length ≤ 12 := by omega
    have HC1 := Lib.hid (fun k x (hk : rs[k]? = some x) (hx : okR x = false) => checkD_1 h12 hk hx)
    have HC0 := Lib.hid (fun (ha : rs.all okR = true) hn => checkD_0 h12 ha hn)
    have HC6 := Lib.hid (fun (ha : rs.all okR = true) hn => checkD_6 h12 ha hn)
    generalize checkD rs = q at *
    clear h12 hcm
    go_enter Tryz.func25, Tryz.ntmps25
    go_wp2
    all_goals (try (exfalso; omega))
    go_loopw [13] (fun v13 wr => ∃ k : Nat, v13 = .int .i64 (k : Int) ∧ k ≤ rs.length ∧ OkTo rs k ∧ Gr w wr) (fun v13 _ => rs.length - (intOf v13).toNat)
    case atStart => exact ⟨0, rfl, Nat.zero_le _, fun j x hj _ => absurd hj (by omega), Gr.refl _⟩
    case round =>
      obtain ⟨k, rfl, hk, hO, hgw⟩ := hrel
      by_cases hlt : k < rs.length
      · obtain ⟨x, hxk⟩ : ∃ x, rs[k]? = some x := ⟨_, List.getElem?_eq_getElem hlt⟩
        have hw := ru_ways x
        obtain ⟨ad, P, v0, v1, v2, v3, rfl, eP, hP, c0, c1, c2, c3, c4, c5, hs, hsx⟩ := (h.gr hgw).at_ k _ hxk
        obtain ⟨cl, wx, ac⟩ := x
        dsimp only at *
        obtain ⟨op_, dy_, ml_, A_, n_, c_, rfl, rfl, rfl, rfl⟩ := hsx.four
        have hB := Blk.new wr 47 #[.string cl, .int .i64 op_, .int .i64 dy_, .string ml_, .slice A_ n_ c_, .int .i64 ac]
        have hG1 := Gr.alloc wr (.cells #[.string cl, .int .i64 op_, .int .i64 dy_, .string ml_, .slice A_ n_ c_, .int .i64 ac] 47)
        have cN := fun W => name_any cl W hs
        have cM := fun W hg => pmay_any wx _ W (hsx.gr hg)
        rcases hw with ⟨h1, h2⟩ | ⟨h1, h2⟩ | ⟨h1, h1', h3, h4, h2⟩ | ⟨h1, h1', h3, h2⟩
        iterate 2
          · have HQ := Lib.hid (HC1.out k _ hxk h2)
            clear hxk h2 hO cN cM
            go_wp2
            all_goals (try (exfalso; omega))
            go_ret
            exact ⟨ret_int HQ.out.symm, Gr.trans hgw hG1⟩
        · have HQ := Lib.hid (HC1.out k _ hxk h2)
          obtain ⟨s1, s2, s3⟩ := str_nil h3
          simp only [h4] at cN
          have d1 : decide (ac < 1) = false := decide_eq_false (by omega)
          have d2 : decide (3 < ac) = false := decide_eq_false (by omega)
          clear hxk h2 hO cM h3 h4
          go_wp2_with (first
            | (go_at_call 40; (with_reducible refine (cN _).mono ?_); rintro e w1 ⟨rfl, hb1⟩))
          all_goals (try (exfalso; omega))
          go_ret
          exact ⟨ret_int HQ.out.symm, Gr.trans (Gr.trans hgw hG1) hb1⟩
        · have d1 : decide (ac < 1) = false := decide_eq_false (by omega)
          have d2 : decide (3 < ac) = false := decide_eq_false (by omega)
          generalize hmx : (mayX wx 24 8).isSome = mx at *
          rcases h3 with h3 | ⟨h3, h4⟩
          · obtain rfl := str_zero h3
            cases mx with
            | false =>
              have HQ := Lib.hid (HC1.out k _ hxk h2)
              clear hxk h2 hO cN h3 hmx
              go_wp2_with (go_at_call 41; (with_reducible refine (cM _ hG1).mono ?_); rintro e w1 ⟨rfl, hb1⟩)
              all_goals (try (exfalso; omega))
              go_ret
              exact ⟨ret_int HQ.out.symm, Gr.trans (Gr.trans hgw hG1) hb1⟩
            | true =>
              have HO := Lib.hid (hO.succ hxk h2)
              clear hxk h2 hO cN h3 hmx
              go_wp2_with (go_at_call 41; (with_reducible refine (cM _ hG1).mono ?_); rintro e w1 ⟨rfl, hb1⟩)
              all_goals (try (exfalso; omega))
              go_roundw
              case rel => exact ⟨k + 1, by go_num, by omega, HO.out, Gr.trans (Gr.trans hgw hG1) hb1⟩
              case measure => simp [intOf]; omega
          · obtain ⟨s1, s2, s3⟩ := str_nil h3
            simp only [h4] at cN
            cases mx with
            | false =>
              have HQ := Lib.hid (HC1.out k _ hxk h2)
              clear hxk h2 hO h3 h4 hmx
              go_wp2_with (first
                | (go_at_call 40; (with_reducible refine (cN _).mono ?_); rintro e w1 ⟨rfl, hb1⟩
                   obtain ⟨q0, q1, q2, q3, q4, q5⟩ := six_cells (hB.below hb1 hB.lt)
                   have hG2 := Gr.trans hG1 hb1)
                | (go_at_call 41; (with_reducible refine (cM _ hG2).mono ?_); rintro e w2 ⟨rfl, hb2⟩))
              all_goals (try (exfalso; omega))
              go_ret
              exact ⟨ret_int HQ.out.symm, Gr.trans (Gr.trans hgw hG2) hb2⟩
            | true =>
              have HO := Lib.hid (hO.succ hxk h2)
              clear hxk h2 hO h3 h4 hmx
              go_wp2_with (first
                | (go_at_call 40; (with_reducible refine (cN _).mono ?_); rintro e w1 ⟨rfl, hb1⟩
                   obtain ⟨q0, q1, q2, q3, q4, q5⟩ := six_cells (hB.below hb1 hB.lt)
                   have hG2 := Gr.trans hG1 hb1)
                | (go_at_call 41; (with_reducible refine (cM _ hG2).mono ?_); rintro e w2 ⟨rfl, hb2⟩))
              all_goals (try (exfalso; omega))
              go_roundw
              case rel => exact ⟨k + 1, by go_num, by omega, HO.out, Gr.trans (Gr.trans hgw hG2) hb2⟩
              case measure => simp [intOf]; omega
      · obtain rfl : k = rs.length := by omega
        have HA := Lib.hid hO.all
        obtain ⟨w0r, hw0r⟩ : ∃ x, x = wr := ⟨_, rfl⟩
        subst hw0r
        have hle := hgw.size
        clear hO
        go_wp2
        go_loopw [44] (fun v44 wr2 => ∃ (i : Nat) (D : DataW Unit), v44 = .int .i64 (i : Int) ∧ i ≤ rs.length ∧ ((rs.map Ru.cls).take i).Nodup ∧ wr2.ownsMap Tryz.prog 9 (plainElem Tryz.prog 4) w0r.heap.size i D ∧ Seen D ((rs.map Ru.cls).take i) ∧ Gr w wr2) (fun v44 _ => rs.length - (intOf v44).toNat)
        case atStart => exact ⟨0, .map [], rfl, Nat.zero_le _, by simp, World.ownsMap_made _ _ _ _, Seen.nil, Gr.trans hgw (Gr.alloc _ _)⟩
        case round =>
          obtain ⟨i, D, rfl, hi, hN, hown, hS, hg2⟩ := hrel
          by_cases hil : i < rs.length
          · obtain ⟨x, hxi⟩ : ∃ x, rs[i]? = some x := ⟨_, List.getElem?_eq_getElem hil⟩
            have hci := cls_at hxi
            obtain ⟨ad, P, v0, v1, v2, v3, rfl, eP, hP, c0, c1, c2, c3, c4, c5, hs, hsx⟩ := (h.gr hg2).at_ i _ hxi
            obtain ⟨cl, wx, ac⟩ := x
            dsimp only at *
            obtain ⟨op_, dy_, ml_, A_, n_, c_, rfl, rfl, rfl, rfl⟩ := hsx.four
            have hG1 := Gr.alloc wr (.cells #[.string cl, .int .i64 op_, .int .i64 dy_, .string ml_, .slice A_ n_ c_, .int .i64 ac] 47)
            have hkey : keyOf Tryz.prog 9 (.string cl) = some (.string cl.data.toList) := Go.WideMaps.keyOf_string_mk Tryz.underlying9 (by unfold maxLen; omega)
            have hat := hS cl
            have hmb := hown.lt
            by_cases hin : cl ∈ (rs.map Ru.cls).take i
            · rw [hasB_iff.2 hin] at hat
              have HQ := Lib.hid (HC6.out HA.out (nodup_no hci hin))
              clear hxi hci hS hN hin
              go_wp2_with (first
                | (at_lookup; refine wpList_lookup_own_bool _ rfl _ _ 80 rfl 9 4 key9 Tryz.underlying80 Tryz.underlying4 (zero4 _) w0r.heap.size i D rfl (hown.alloc _) _ _ rfl hkey true hat ?_))
              go_ret
              exact ⟨ret_int HQ.out.symm, Gr.trans hg2 hG1⟩
            · rw [hasB_no hin] at hat
              obtain ⟨hl2, hy2⟩ := List.getElem?_eq_some_iff.1 hci
              have htk : (rs.map Ru.cls).take (i + 1) = (rs.map Ru.cls).take i ++ [cl] := by rw [List.take_succ_eq_append_getElem hl2, hy2]
              have HN2 := Lib.hid (nodup_step hN hci hin)
              have HS2 := Lib.hid (htk ▸ hS.put hown.isMap cl)
              clear hxi hci hS hN hin htk hl2 hy2
              go_wp2_with (first
                | (at_lookup; refine wpList_lookup_own_bool _ rfl _ _ 80 rfl 9 4 key9 Tryz.underlying80 Tryz.underlying4 (zero4 _) w0r.heap.size i D rfl (hown.alloc _) _ _ rfl hkey false hat ?_)
                | (at_mapUpdate; refine wpList_mapUpdate_own _ rfl _ _ _ 80 rfl 9 4 key9 Tryz.underlying80 (plainElem Tryz.prog 4) w0r.heap.size i D rfl (hown.alloc _) (by unfold maxLen; omega) _ _ _ rfl rfl hkey _ [] (plainElem_bool Tryz.underlying4 true) ?_; intro w1 hown1 hgrow1))
              go_roundw
              case rel => exact ⟨i + 1, _, by go_num, by omega, HN2.out, hown1, HS2.out, gr_of_grx (Gr.trans hg2 hG1) hgrow1 hle⟩
              case measure => simp [intOf]; omega
          · obtain rfl : i = rs.length := by omega
            have hnd : (rs.map Ru.cls).Nodup := by
              rw [List.take_of_length_le (by rw [List.length_map]; exact Nat.le_refl _)] at hN
              exact hN
            have HQ := Lib.hid (HC0.out HA.out hnd)
            clear hN hnd hS
            go_wp2
            go_ret
            exact ⟨ret_int HQ.out.symm, hg2⟩
end Go.Proofs.YtogpmihepfnoaaaGreatDoor
