/- The laws LexAll, LexOrder, LexJoins: their walks. -/
import Derived.Test.YtogpmihepfnoaaaDoorLexD
namespace Go.Proofs.YtogpmihepfnoaaaDoor
open Go Go.RowKit Go.Sort

theorem quiet_sm {P : Program} {f : FuncId} {args : Array Value} {w : World} {n : Nat} {v : Value} (h : Calls P f args (w.drewN n) fun e w' => e = .returned v ∧ w.drewN n = w') : Calls P f args (w.drewN n) fun e w'' => e = .returned v ∧ ∃ m, w'' = w.drewN m :=
  h.mono fun _ _ ⟨he, hm⟩ => ⟨he, n, hm.symm⟩
theorem lex_live1 : lexAll (⟨#[99, 108, 97, 115, 115, 32, 34, 104, 114, 34, 32, 107, 101, 101, 112, 32, 50, 121]⟩ : ByteArray).data.toList = ([⟨1, ⟨#[99, 108, 97, 115, 115]⟩, 0, 0⟩, ⟨2, ⟨#[104, 114]⟩, 0, 6⟩, ⟨1, ⟨#[107, 101, 101, 112]⟩, 0, 11⟩, ⟨3, ⟨#[50, 121]⟩, 730, 16⟩], 18, 0) := lex_live
set_option maxRecDepth 100000 in
set_option maxHeartbeats 2000000 in
theorem lexlive_any (w : World) (hP : Pow w) (hE : Errs w) : Calls Tryd.prog 10 #[] w fun e w' => e = .returned (.bool true) ∧ Gr w w' := by
  have cA := all_any ⟨#[99, 108, 97, 115, 115, 32, 34, 104, 114, 34, 32, 107, 101, 101, 112, 32, 50, 121]⟩ w hP hE (by decide)
  rw [lex_live1] at cA
  clear hP hE
  go_enter Tryd.func10, Tryd.ntmps10
  go_wp2_with (first
    | (go_at_call 11; (with_reducible refine cA.mono ?_); rintro e w1 ⟨v1, rfl, hr1, hg1⟩
       obtain ⟨A, c, rfl, hc⟩ := hr1.form
       obtain ⟨ad, P1, rfl, eP1, hP1, c10, c11, c12, c13⟩ := hr1.tok 1 _ rfl
       obtain ⟨ad', P3, e3, eP3, hP3, c30, c31, c32, c33⟩ := hr1.tok 3 _ rfl
       obtain rfl := Option.some.inj e3
       clear hr1
       dsimp only [List.length_cons, List.length_nil] at *)
    | go_in)
  go_ret
  exact ⟨rfl, hg1⟩
theorem lnum_any (n : Int) (w : World) : Calls Tryd.prog 14 #[.int .i64 n] w fun e w' => e = .returned (.int .i64 n) ∧ w = w' := by
  go_enter Tryd.func14, Tryd.ntmps14
  go_wp2
  go_ret
  exact ⟨rfl, rfl⟩
set_option maxRecDepth 100000 in
set_option maxHeartbeats 2000000 in
theorem law_lexall (s : ByteArray) (w : World) (hs : s.size ≤ maxLen) (hP : Pow w) (hE : Errs w) : Calls Tryd.prog 3 #[.string s] w fun e w' => e = .returned (.bool true) ∧ Gr w w' := by
  have HP := Lib.hid hP
  have HE := Lib.hid hE
  have cA := all_any s w hP hE hs
  have cB := fun W => refall_any s W hs
  have hlen := lexAll_len s.data.toList
  clear hP hE
  unfold maxLen at hs
  by_cases h : s.size ≤ 2000
  · generalize lexAll s.data.toList = X at *
    obtain ⟨ts, n, e⟩ := X
    dsimp only at *
    go_enter Tryd.func3, Tryd.ntmps3
    go_wp2_with (first
      | (go_at_call 11; (with_reducible refine cA.mono ?_); rintro e w1 ⟨v1, rfl, hr1, hg1⟩)
      | (go_at_call 12; (with_reducible refine (cB _).mono ?_); rintro e w2 ⟨v2, rfl, hr2, hg2⟩
         have hr3 := hr1.grow hg2)
      | (go_at_call 13; (with_reducible refine (tksame_any _ _ _ ts hr3 hr2 (by omega)).mono ?_); rintro e w3 ⟨rfl, hg3⟩
         have hG := Gr.trans (Gr.trans hg1 hg2) hg3)
      | (go_at_call 14; (with_reducible refine (lnum_any _ _).mono ?_); rintro e w4 ⟨rfl, rfl⟩)
      | (go_at_call 10; (with_reducible refine (lexlive_any _ (HP.out.below hG) (HE.out.gr hG)).mono ?_); rintro e w5 ⟨rfl, hg5⟩))
    go_ret
    exact ⟨rfl, Gr.trans hG hg5⟩
  · go_enter Tryd.func3, Tryd.ntmps3
    go_wp2_with (go_at_call 10; (with_reducible refine (lexlive_any _ HP.out HE.out).mono ?_); rintro e w5 ⟨rfl, hg5⟩)
    all_goals (try (exfalso; omega))
    go_ret
    exact ⟨rfl, hg5⟩
theorem row_lexall (s : ByteArray) (w : World) (hs : s.size ≤ 140737488351232) (hP : Pow w) (hE : Errs w) : Calls Tryd.prog 3 #[.string s] w fun e w' => e = .returned (.bool true) ∧ Below w.heap.size w w' :=
  law_lexall s w (by unfold maxLen; omega) hP hE
set_option maxRecDepth 100000 in
set_option maxHeartbeats 4000000 in
theorem law_lexorder (s : ByteArray) (w : World) (hs : s.size ≤ maxLen) (hP : Pow w) (hE : Errs w) : Calls Tryd.prog 4 #[.string s] w fun e w' => e = .returned (.bool true) ∧ Gr w w' := by
  have HP := Lib.hid hP
  have HE := Lib.hid hE
  have cA := all_any s w hP hE hs
  have hlen := lexAll_len s.data.toList
  have herr := lexAll_err s.data.toList
  have cK := fun i (hi : i ≤ s.size) (h2 : s.size ≤ 2000) W => skip_any s i W (by omega) hi
  have hend := lexR_end s.data.toList 0
  clear hP hE
  rw [size_list] at herr hend
  unfold maxLen at hs
  by_cases h : s.size ≤ 2000
  · generalize hX : lexAll s.data.toList = X at *
    obtain ⟨ts, n, e⟩ := X
    dsimp only at *
    by_cases he : e = 0
    · subst he
      obtain ⟨h600, hR⟩ := herr rfl
      rw [← hR] at hend
      have hn := hend rfl
      dsimp only at hn
      have HR := Lib.hid hR.symm
      clear herr hR hX hend
      go_enter Tryd.func4, Tryd.ntmps4
      go_wp2_with (first
        | (go_at_call 11; (with_reducible refine cA.mono ?_); rintro e w1 ⟨v1, rfl, hr1, hg1⟩
           obtain ⟨A, c, rfl, hc⟩ := hr1.form)
        | (go_at_call 14; (with_reducible refine (lnum_any _ _).mono ?_); rintro e w4 ⟨rfl, rfl⟩))
      go_loopw [6, 7] (fun v6 v7 wr => ∃ k at_ : Nat, v7 = .int .i64 (k : Int) ∧ v6 = .int .i64 (at_ : Int) ∧ k ≤ ts.length ∧ at_ ≤ s.size ∧ lexR (s.data.toList.drop at_) at_ = (ts.drop k, n, 0) ∧ Gr w1 wr) (fun _ v7 _ => ts.length - (intOf v7).toNat)
      case atStart => exact ⟨0, 0, rfl, rfl, Nat.zero_le _, Nat.zero_le _, by rw [List.drop_zero, List.drop_zero]; exact HR.out, Gr.refl _⟩
      case round =>
        obtain ⟨k, at_, rfl, rfl, hk, hat, hcm, hg⟩ := hrel
        have cS := fun W => cK at_ hat h W
        have hnx := lexR_next _ _ _ _ hcm
        rw [List.length_drop, size_list] at hnx
        generalize hsk : skipL (s.data.toList.drop at_) = q at *
        by_cases hlt : k < ts.length
        · have hdk : ts.drop k = ts[k] :: ts.drop (k + 1) := List.drop_eq_getElem_cons hlt
          have htk : ts[k]? = some ts[k] := List.getElem?_eq_getElem hlt
          rcases hnx with ⟨h0, _⟩ | ⟨t, r, h0, h1, h2, h3, h4, h5⟩
          · rw [hdk] at h0; cases h0
          rw [hdk] at h0
          injection h0 with h0 h6
          rw [h0] at htk
          rw [List.drop_drop] at h5
          subst h6
          clear h0 hdk hcm hsk
          obtain ⟨kd, tx, tn, ta⟩ := t
          dsimp only at h1
          subst h1
          obtain ⟨ad, P, rfl, eP, hP', c0, c1, c2, c3⟩ := (hr1.grow hg).tok k _ htk
          dsimp only at c0 c1 c2 c3
          unfold Tk.size at h3 h4 h5
          dsimp only at h3 h4 h5
          have htb : tx.size ≤ 2000 := by omega
          have k1 : ((at_ + q : Nat) : Int) = (at_ : Int) + (q : Int) := by omega
          by_cases h2k : kd = 2
          · subst h2k
            rw [if_pos rfl] at h3 h4 h5
            have H5 := Lib.hid h5
            have b5 : IntKind.i64.wrap ((s.size : Int) - ((at_ : Int) + (q : Int))) = (s.size : Int) - ((at_ : Int) + (q : Int)) := IntWalk.i64_in _ (by omega)
            have b1 : decide ((at_ : Int) + (q : Int) < (at_ : Int)) = false := decide_eq_false (by omega)
            have b2 : decide ((s.size : Int) ≤ (at_ : Int) + (q : Int)) = false := decide_eq_false (by omega)
            have b3 : decide ((tx.size : Int) + 2 < 1) = false := decide_eq_false (by omega)
            have b4 : decide ((s.size : Int) - ((at_ : Int) + (q : Int)) < (tx.size : Int) + 2) = false := decide_eq_false (by omega)
            clear htk h5
            go_wp2
            go_quiet ((go_at_call 15; exact quiet_sm (cS _)))
            go_wp2
            go_roundw
            case rel => exact ⟨k + 1, at_ + (q + (tx.size + 2)), by go_num, by go_num, by omega, by omega, by rw [show at_ + (q + (tx.size + 2)) = at_ + q + (tx.size + 2) by omega] at *; exact H5.out, Gr.trans hg (Gr.trans (Gr.alloc _ _) (Gr.drewN _ _))⟩
            case measure => simp [intOf]; omega
          · have t1 : (kd == 2) = false := by simp [h2k]
            have t2 : decide (kd = 2) = false := by simp [h2k]
            rw [if_neg h2k] at h3 h4 h5
            have H5 := Lib.hid h5
            have b5 : IntKind.i64.wrap ((s.size : Int) - ((at_ : Int) + (q : Int))) = (s.size : Int) - ((at_ : Int) + (q : Int)) := IntWalk.i64_in _ (by omega)
            have b1 : decide ((at_ : Int) + (q : Int) < (at_ : Int)) = false := decide_eq_false (by omega)
            have b2 : decide ((s.size : Int) ≤ (at_ : Int) + (q : Int)) = false := decide_eq_false (by omega)
            have b3 : decide ((tx.size : Int) < 1) = false := decide_eq_false (by omega)
            have b4 : decide ((s.size : Int) - ((at_ : Int) + (q : Int)) < (tx.size : Int)) = false := decide_eq_false (by omega)
            clear htk h5 h2k
            go_wp2
            go_quiet ((go_at_call 15; exact quiet_sm (cS _)))
            go_wp2
            go_roundw
            case rel => exact ⟨k + 1, at_ + (q + tx.size), by go_num, by go_num, by omega, by omega, by have h6 := H5.out; rw [show at_ + (q + (tx.size + 0)) = at_ + (q + tx.size) by omega, show at_ + q + (tx.size + 0) = at_ + (q + tx.size) by omega] at h6; exact h6, Gr.trans hg (Gr.trans (Gr.alloc _ _) (Gr.drewN _ _))⟩
            case measure => simp [intOf]; omega
        · obtain rfl : k = ts.length := by omega
          rw [List.drop_length] at hcm hnx
          have hq : at_ + q = s.size := by
            rcases hnx with ⟨_, h1⟩ | ⟨t, r, h0, _⟩
            · omega
            · cases h0
          rw [hq] at cS
          clear hnx hcm hsk
          have hG := Gr.trans hg1 hg
          go_wp2_with (first
            | (go_at_call 15; (with_reducible refine (cS _).mono ?_); rintro e w4 ⟨rfl, rfl⟩)
            | (go_at_call 10; (with_reducible refine (lexlive_any _ (HP.out.below hG) (HE.out.gr hG)).mono ?_); rintro e w5 ⟨rfl, hg5⟩))
          go_ret
          exact ⟨rfl, Gr.trans hG hg5⟩
    · have e1 : (e == 0) = false := by simp [he]
      have e2 : (e != 0) = true := by simp [he]
      have e3 : decide (e = 0) = false := by simp [he]
      clear hX herr he hend
      go_enter Tryd.func4, Tryd.ntmps4
      go_wp2_with (first
        | (go_at_call 11; (with_reducible refine cA.mono ?_); rintro e w1 ⟨v1, rfl, hr1, hg1⟩)
        | (go_at_call 14; (with_reducible refine (lnum_any _ _).mono ?_); rintro e w4 ⟨rfl, rfl⟩)
        | (go_at_call 10; (with_reducible refine (lexlive_any _ (HP.out.below hg1) (HE.out.gr hg1)).mono ?_); rintro e w5 ⟨rfl, hg5⟩))
      go_ret
      exact ⟨rfl, Gr.trans hg1 hg5⟩
  · clear herr hend
    generalize lexAll s.data.toList = X at *
    obtain ⟨ts, n, e⟩ := X
    dsimp only at *
    go_enter Tryd.func4, Tryd.ntmps4
    go_wp2_with (first
      | (go_at_call 11; (with_reducible refine cA.mono ?_); rintro e w1 ⟨v1, rfl, hr1, hg1⟩)
      | (go_at_call 10; (with_reducible refine (lexlive_any _ (HP.out.below hg1) (HE.out.gr hg1)).mono ?_); rintro e w5 ⟨rfl, hg5⟩))
    all_goals (try (exfalso; omega))
    go_ret
    exact ⟨rfl, Gr.trans hg1 hg5⟩
theorem row_lexorder (s : ByteArray) (w : World) (hs : s.size ≤ 140737488351232) (hP : Pow w) (hE : Errs w) : Calls Tryd.prog 4 #[.string s] w fun e w' => e = .returned (.bool true) ∧ Below w.heap.size w w' :=
  law_lexorder s w (by unfold maxLen; omega) hP hE
end Go.Proofs.YtogpmihepfnoaaaDoor
