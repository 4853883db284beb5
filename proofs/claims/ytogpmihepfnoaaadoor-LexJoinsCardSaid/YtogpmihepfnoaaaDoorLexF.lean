/- The law LexJoins: its walk. -/
import Derived.Test.YtogpmihepfnoaaaDoorLexE
namespace Go.Proofs.YtogpmihepfnoaaaDoor
open Go Go.RowKit Go.Sort

theorem lexR_at_n : ∀ (n : Nat) (l : List UInt8) (i : Nat), l.length ≤ n → (lexR l i).2.2 = 0 → ∀ t ∈ (lexR l i).1, (i : Int) ≤ t.at_ ∧ t.at_ < ((i + l.length : Nat) : Int)
  | _, [], i, _, _ => by rw [lexR_nil]; intro t h; simp at h
  | 0, _ :: _, _, h, _ => by simp at h
  | n + 1, c :: r, i, h, h0 => by
    rw [List.length_cons] at h ⊢
    cases hb : blankB c with
    | true =>
      rw [lexR_blank hb] at h0 ⊢
      intro t ht
      have := lexR_at_n n r _ (by omega) h0 t ht
      omega
    | false =>
      by_cases h2 : c.toNat = 35
      · have hd := dropWhile_len nlB r
        rw [lexR_remark hb h2] at h0 ⊢
        intro t ht
        have := lexR_at_n n _ _ (by omega) h0 t ht
        omega
      · obtain ⟨h3, h4, h5⟩ := lexR_tok0 hb h2 h0
        have hn := lexOne_len h3
        rw [List.length_cons] at hn
        rw [h5]
        intro t ht
        rcases List.mem_cons.1 ht with rfl | ht
        · dsimp only; omega
        · have := lexR_at_n n _ _ (by rw [List.length_drop]; omega) h4 t ht
          rw [List.length_drop] at this
          omega
theorem lexR_at (l : List UInt8) (h : (lexR l 0).2.2 = 0) : ∀ t ∈ (lexR l 0).1, 0 ≤ t.at_ ∧ t.at_ < (l.length : Int) := by
  intro t ht
  have := lexR_at_n l.length l 0 (Nat.le_refl _) h t ht
  omega
theorem join_list (s t : ByteArray) : (s ++ ⟨#[10]⟩ ++ t).data.toList = s.data.toList ++ 10 :: t.data.toList := by
  simp [ByteArray.data_append]
theorem join_size (s t : ByteArray) : (s ++ ⟨#[10]⟩ ++ t).size = s.size + t.size + 1 := by
  rw [ByteArray.size_append, ByteArray.size_append]
  show s.size + 1 + t.size = _
  omega
set_option maxRecDepth 100000 in
set_option maxHeartbeats 4000000 in
theorem law_lexjoins (s t : ByteArray) (w : World) (hs : s.size ≤ maxLen) (ht : t.size ≤ maxLen) (hP : Pow w) (hE : Errs w) : Calls Tryd.prog 5 #[.string s, .string t] w fun e w' => e = .returned (.bool true) ∧ Gr w w' := by
  have HP := Lib.hid hP
  have HE := Lib.hid hE
  clear hP hE
  rcases (by omega : 300 < s.size ∨ s.size ≤ 300 ∧ 290 < t.size ∨ s.size ≤ 300 ∧ t.size ≤ 290) with h | ⟨h, h2⟩ | ⟨h, h2⟩
  · unfold maxLen at hs ht
    go_enter Tryd.func5, Tryd.ntmps5
    go_wp2_with (go_at_call 10; (with_reducible refine (lexlive_any _ HP.out HE.out).mono ?_); rintro e w5 ⟨rfl, hg5⟩)
    all_goals (try (exfalso; omega))
    go_ret
    exact ⟨rfl, hg5⟩
  · unfold maxLen at hs ht
    go_enter Tryd.func5, Tryd.ntmps5
    go_wp2_with (go_at_call 10; (with_reducible refine (lexlive_any _ HP.out HE.out).mono ?_); rintro e w5 ⟨rfl, hg5⟩)
    all_goals (try (exfalso; omega))
    go_ret
    exact ⟨rfl, hg5⟩
  have cA := fun W hg => all_any s W (HP.out.below hg) (HE.out.gr hg) hs
  have cB := fun W hg => all_any t W (HP.out.below hg) (HE.out.gr hg) ht
  have cC := fun W hg => all_any (s ++ ⟨#[10]⟩ ++ t) W (HP.out.below hg) (HE.out.gr hg) (by rw [join_size]; unfold maxLen; omega)
  have eA : lexAll s.data.toList = lexR s.data.toList 0 := lexAll_small (by omega)
  have eB : lexAll t.data.toList = lexR t.data.toList 0 := lexAll_small (by omega)
  have eC : lexAll (s ++ ⟨#[10]⟩ ++ t).data.toList = lexR (s.data.toList ++ 10 :: t.data.toList) 0 := by
    rw [lexAll_small (by rw [join_size]; omega), join_list]
  rw [eA] at cA
  rw [eB] at cB
  rw [eC] at cC
  clear hs ht eA eB eC
  have hj := lex_joins s.data.toList t.data.toList
  have hatA := lexR_at s.data.toList
  have hatB := lexR_at t.data.toList
  have hlA := lexR_len_n s.data.toList.length s.data.toList 0 (Nat.le_refl _)
  have hlB := lexR_len_n t.data.toList.length t.data.toList 0 (Nat.le_refl _)
  rw [size_list] at hatA hatB hlA hlB
  rw [size_list, size_list] at hj
  generalize lexR s.data.toList 0 = X at *
  generalize lexR t.data.toList 0 = Y at *
  generalize lexR (s.data.toList ++ 10 :: t.data.toList) 0 = Z at *
  obtain ⟨ts, n, e⟩ := X
  obtain ⟨us, m, f⟩ := Y
  obtain ⟨vs, p, g⟩ := Z
  dsimp only at *
  have q1 : ¬ 9223372036854775807 < s.size + 1 := by omega
  have q2 : ¬ 9223372036854775807 < s.size + 1 + t.size := by omega
  by_cases he : e = 0
  · by_cases hf : f = 0
    · subst he hf
      have hj := hj rfl rfl
      injection hj with hj1 hj2
      injection hj2 with hj2 hj3
      subst hj1 hj2 hj3
      have HatA := Lib.hid (hatA rfl)
      have HatB := Lib.hid (hatB rfl)
      clear hatA hatB
      have hvl : (ts ++ us.map (Tk.by_ (s.size + 1))).length = ts.length + us.length := by rw [List.length_append, List.length_map]
      go_enter Tryd.func5, Tryd.ntmps5
      go_wp2_with (first
        | (go_at_call 11; (with_reducible refine (cA _ (Gr.refl _)).mono ?_); rintro e w1 ⟨v1, rfl, hr1, hg1⟩
           clear cA
           obtain ⟨A1, c1, rfl, hc1⟩ := hr1.form)
        | (go_at_call 11; (with_reducible refine (cB _ hg1).mono ?_); rintro e w2 ⟨v2, rfl, hr2, hg2⟩
           clear cB
           have hG2 := Gr.trans hg1 hg2
           have hr1 := hr1.grow hg2
           obtain ⟨A2, c2, rfl, hc2⟩ := hr2.form)
        | (go_at_call 11; (with_reducible refine (cC _ hG2).mono ?_); rintro e w3 ⟨v3, rfl, hr3, hg3⟩
           have hG3 := Gr.trans hG2 hg3
           have hr1 := hr1.grow hg3
           have hr2 := hr2.grow hg3
           obtain ⟨A3, c3, rfl, hc3⟩ := hr3.form
           have hvx := congrArg (fun l : Nat => (l : Int)) hvl
           rw [Int.natCast_add] at hvx)
        | (go_at_call 14; (with_reducible refine (lnum_any _ _).mono ?_); rintro e w4 ⟨rfl, rfl⟩))
      go_loopw [14] (fun v14 wr => ∃ k : Nat, v14 = .int .i64 (k : Int) ∧ k ≤ ts.length + us.length ∧ Gr w3 wr) (fun v14 _ => ts.length + us.length - (intOf v14).toNat)
      case atStart => exact ⟨0, rfl, Nat.zero_le _, Gr.refl _⟩
      case round =>
        obtain ⟨k, rfl, hk, hg⟩ := hrel
        by_cases hlt : k < ts.length
        · obtain ⟨⟨kd, tx, tn, ta⟩, htk⟩ : ∃ x, ts[k]? = some x := ⟨_, List.getElem?_eq_getElem hlt⟩
          obtain ⟨ad, P, rfl, eP, hP, c0, c1, c2, c3⟩ := (hr1.grow hg).tok k _ htk
          obtain ⟨ad3, P3, rfl, eP3, hP3, d0, d1, d2, d3⟩ := (hr3.grow hg).tok k ⟨kd, tx, tn, ta⟩ (by rw [List.getElem?_append_left hlt]; exact htk)
          dsimp only at c0 c1 c2 c3 d0 d1 d2 d3
          clear htk
          go_wp2
          go_quiet (fail)
          go_wp2
          go_roundw
          case rel => exact ⟨k + 1, by go_num, by omega, Gr.trans hg (Gr.trans (Gr.alloc _ _) (Gr.drewN _ _))⟩
          case measure => simp [intOf]; omega
        · obtain ⟨j, rfl⟩ : ∃ j, k = ts.length + j := ⟨k - ts.length, by omega⟩
          by_cases hju : j < us.length
          · obtain ⟨⟨kd, tx, tn, ta⟩, htk⟩ : ∃ x, us[j]? = some x := ⟨_, List.getElem?_eq_getElem hju⟩
            obtain ⟨ad, P, rfl, eP, hP, c0, c1, c2, c3⟩ := (hr2.grow hg).tok j _ htk
            obtain ⟨ad3, P3, rfl, eP3, hP3, d0, d1, d2, d3⟩ := (hr3.grow hg).tok (ts.length + j) ⟨kd, tx, tn, ta + ((s.size + 1 : Nat) : Int)⟩ (by rw [List.getElem?_append_right (by omega), Nat.add_sub_cancel_left, List.getElem?_map, htk]; rfl)
            have hta := HatB.out _ (List.mem_of_getElem? htk)
            dsimp only at c0 c1 c2 c3 d0 d1 d2 d3 hta
            rw [show ta + ((s.size + 1 : Nat) : Int) = ta + (s.size : Int) + 1 by omega] at d3
            have hkj : ((ts.length + j : Nat) : Int) - (ts.length : Int) = (j : Int) := by omega
            generalize hK : ts.length + j = K at *
            clear htk
            go_wp2
            go_quiet (fail)
            go_wp2
            go_roundw
            case rel => exact ⟨K + 1, by go_num, by omega, Gr.trans hg (Gr.trans (Gr.alloc _ _) (Gr.drewN _ _))⟩
            case measure => simp [intOf]; omega
          · obtain rfl : j = us.length := by omega
            have hG := Gr.trans hG3 hg
            go_wp2_with (go_at_call 10; (with_reducible refine (lexlive_any _ (HP.out.below hG) (HE.out.gr hG)).mono ?_); rintro e w5 ⟨rfl, hg5⟩)
            go_ret
            exact ⟨rfl, Gr.trans hG hg5⟩
    · subst he
      have e1 : (f == 0) = false := by simp [hf]
      have e2 : (f != 0) = true := by simp [hf]
      have e3 : decide (f = 0) = false := by simp [hf]
      clear hf hj
      go_enter Tryd.func5, Tryd.ntmps5
      go_wp2_with (first
        | (go_at_call 11; (with_reducible refine (cA _ (Gr.refl _)).mono ?_); rintro e w1 ⟨v1, rfl, hr1, hg1⟩
           clear cA)
        | (go_at_call 11; (with_reducible refine (cB _ hg1).mono ?_); rintro e w2 ⟨v2, rfl, hr2, hg2⟩
           clear cB
           have hG2 := Gr.trans hg1 hg2)
        | (go_at_call 11; (with_reducible refine (cC _ hG2).mono ?_); rintro e w3 ⟨v3, rfl, hr3, hg3⟩
           have hG3 := Gr.trans hG2 hg3)
        | (go_at_call 14; (with_reducible refine (lnum_any _ _).mono ?_); rintro e w4 ⟨rfl, rfl⟩)
        | (go_at_call 10; (with_reducible refine (lexlive_any _ (HP.out.below hG3) (HE.out.gr hG3)).mono ?_); rintro e w5 ⟨rfl, hg5⟩))
      go_ret
      exact ⟨rfl, Gr.trans hG3 hg5⟩
  · have e1 : (e == 0) = false := by simp [he]
    have e2 : (e != 0) = true := by simp [he]
    have e3 : decide (e = 0) = false := by simp [he]
    clear he hj
    go_enter Tryd.func5, Tryd.ntmps5
    go_wp2_with (first
      | (go_at_call 11; (with_reducible refine (cA _ (Gr.refl _)).mono ?_); rintro e w1 ⟨v1, rfl, hr1, hg1⟩
         clear cA)
      | (go_at_call 11; (with_reducible refine (cB _ hg1).mono ?_); rintro e w2 ⟨v2, rfl, hr2, hg2⟩
         clear cB
         have hG2 := Gr.trans hg1 hg2)
      | (go_at_call 11; (with_reducible refine (cC _ hG2).mono ?_); rintro e w3 ⟨v3, rfl, hr3, hg3⟩
         have hG3 := Gr.trans hG2 hg3)
      | (go_at_call 14; (with_reducible refine (lnum_any _ _).mono ?_); rintro e w4 ⟨rfl, rfl⟩)
      | (go_at_call 10; (with_reducible refine (lexlive_any _ (HP.out.below hG3) (HE.out.gr hG3)).mono ?_); rintro e w5 ⟨rfl, hg5⟩))
    go_ret
    exact ⟨rfl, Gr.trans hG3 hg5⟩
theorem row_lexjoins (s t : ByteArray) (w : World) (hs : s.size ≤ 140737488351232) (ht : t.size ≤ 140737488351232) (hP : Pow w) (hE : Errs w) : Calls Tryd.prog 5 #[.string s, .string t] w fun e w' => e = .returned (.bool true) ∧ Below w.heap.size w w' :=
  law_lexjoins s t w (by unfold maxLen; omega) (by unfold maxLen; omega) hP hE
end Go.Proofs.YtogpmihepfnoaaaDoor
