/- Scopes: may one be? the reference's count, of what may be. Scopes: may one be? the reference's count, of a list. Scopes: may one be? the reference's answer. -/
import Derived.Test.YtppnlijeonneeaaDoorPkB
import Derived.Test.YtppnlijeonneeaaDoorPkE
namespace Go.Proofs.YtppnlijeonneeaaDoor
open Go Go.RowKit Go.Sort

set_option maxRecDepth 100000 in
set_option maxHeartbeats 8000000 in
theorem left_leaf (op : Int) (nm : ByteArray) (fr to_ : Int) (A : Option Addr) (c : Nat) (w : World) (n d : Nat) (hn : 1 ≤ n) (hd : 1 ≤ d) (hn1 : n ≤ 1000) (hd1 : d ≤ 1000) (hs : nm.size ≤ 2000) (hcm : c ≤ maxLen) (hY : YesW op nm fr to_ 0) :
    Calls Tryd.prog 67 #[.agg #[.int .i64 op, .string nm, .int .i64 fr, .int .i64 to_, .slice A 0 c], .int .i64 (n : Int), .int .i64 (d : Int)] w fun e w' => e = .returned (.int .i64 ((n : Int) - 1)) ∧ Gr w w' := by
  have := hcm
  unfold maxLen at hcm
  have cN := fun W => refname_any nm W (by omega)
  cases hY with
  | name h h2 h3 h4 h5 h6 =>
    subst h4 h5
    obtain ⟨s1, s2, s3⟩ := wr_nil h2
    have cR := fun W => rnamed_yes op W (by omega)
    rw [h3] at cN
    clear h3
    rcases h with rfl | rfl | rfl
    all_goals
      go_enter Tryd.func67, Tryd.ntmps67
      go_wp2
      go_quiet ((first | (go_at_call 93; exact quiet_samen (cR _)) | (go_at_call 42; exact quiet_samen (cN _))))
      go_wp2
      all_goals (try (exfalso; omega))
      refine wp_loop_rounds 1 ?_
      rw [rounds_succ]
      go_wp2
      all_goals (try (exfalso; omega))
      go_ret
      exact ⟨rfl, Gr.trans (Gr.alloc _ _) (Gr.drewN _ _)⟩
  | time h h2 h4 h5 h7 h6 =>
    subst h h2
    have cR := fun W => rnamed_no 5 W (by omega)
    clear cN
    go_enter Tryd.func67, Tryd.ntmps67
    go_wp2
    go_quiet ((first | (go_at_call 93; exact quiet_samen (cR _)) | (go_at_call 42; exact quiet_samen (cN _))))
    go_wp2
    all_goals (try (exfalso; omega))
    refine wp_loop_rounds 1 ?_
    rw [rounds_succ]
    go_wp2
    all_goals (try (exfalso; omega))
    go_ret
    exact ⟨rfl, Gr.trans (Gr.alloc _ _) (Gr.drewN _ _)⟩
  | all h h2 h4 h5 h6 =>
    subst h h2 h4 h5
    have cR := fun W => rnamed_no 1 W (by omega)
    clear cN
    go_enter Tryd.func67, Tryd.ntmps67
    go_wp2
    go_quiet ((first | (go_at_call 93; exact quiet_samen (cR _)) | (go_at_call 42; exact quiet_samen (cN _))))
    go_wp2
    all_goals (try (exfalso; omega))
    refine wp_loop_rounds 1 ?_
    rw [rounds_succ]
    go_wp2
    all_goals (try (exfalso; omega))
    go_ret
    exact ⟨rfl, Gr.trans (Gr.alloc _ _) (Gr.drewN _ _)⟩
  | list h h2 h4 h5 h6 => exact absurd h6 (by omega)
  | neg h h2 h4 h5 h6 => exact absurd h6 (by omega)
end Go.Proofs.YtppnlijeonneeaaDoor

namespace Go.Proofs.YtppnlijeonneeaaDoor
open Go Go.RowKit Go.Sort

def IHL (N : Nat) : Prop := ∀ (x : Sc) (v : Value) (w : World) (n d : Nat), SizeOf.sizeOf x ≤ N → RdSc w (· < w.heap.size) x v → nmOk x = true → n ≤ 1000 → d ≤ 1000 →
    Calls Tryd.prog 67 #[v, .int .i64 (n : Int), .int .i64 (d : Int)] w fun e w' => e = .returned (.int .i64 (optW (mayS x n d))) ∧ Gr w w'
theorem rmany_yes (op : Int) (w : World) (h : op = 6 ∨ op = 7) : Calls Tryd.prog 94 #[.int .i64 op] w fun e w' => e = .returned (.bool true) ∧ w = w' := by
  rcases h with rfl | rfl
  all_goals
    go_enter Tryd.func94, Tryd.ntmps94
    go_wp2
    go_ret
    exact ⟨rfl, rfl⟩
theorem rmany_no (op : Int) (w : World) (h : op = 1 ∨ op = 2 ∨ op = 3 ∨ op = 4 ∨ op = 5 ∨ op = 8) : Calls Tryd.prog 94 #[.int .i64 op] w fun e w' => e = .returned (.bool false) ∧ w = w' := by
  rcases h with rfl | rfl | rfl | rfl | rfl | rfl
  all_goals
    go_enter Tryd.func94, Tryd.ntmps94
    go_wp2
    go_ret
    exact ⟨rfl, rfl⟩
set_option maxRecDepth 100000 in
set_option maxHeartbeats 8000000 in
theorem left_list (N : Nat) (ih : IHL N) (op : Int) (ks : List Sc) (A : Option Addr) (c : Nat) (vs : List Value) (w : World) (n d : Nat) (hn : 1 ≤ n) (hd : 1 ≤ d) (hn1 : n ≤ 1000) (hd1 : d ≤ 1000) (_hc : ks.length ≤ c) (_hcm : c ≤ maxLen)
    (hsz : ∀ (k : Nat) (x : Sc), ks[k]? = some x → SizeOf.sizeOf x ≤ N) (hnm : nmOkL ks = true) (hr : Rk w (· < w.heap.size) 5 A ks.length vs) (hl : RdScL w (· < w.heap.size) ks vs) (ho : (op = 6 ∧ 2 ≤ ks.length) ∨ (op = 7 ∧ 2 ≤ ks.length) ∨ (op = 8 ∧ ks.length = 1)) :
    Calls Tryd.prog 67 #[.agg #[.int .i64 op, .string ⟨#[]⟩, .int .i64 0, .int .i64 0, .slice A ks.length c], .int .i64 (n : Int), .int .i64 (d : Int)] w fun e w' => e = .returned (.int .i64 (optW (mayL ks (n - 1) (d - 1)))) ∧ Gr w w' := by
  unfold maxLen at _hcm
  have cR := fun W => rnamed_no op W (by omega)
  have ho' : (op = 6 ∧ 2 ≤ ks.length) ∨ (op = 7 ∧ 2 ≤ ks.length) ∨ (op = 8 ∧ ((ks.length : Int) == 1) = true) := by
    rcases ho with h | h | h
    · exact .inl h
    · exact .inr (.inl h)
    · exact .inr (.inr ⟨h.1, beq_iff_eq.2 (by omega)⟩)
  by_cases hkn : n - 1 < ks.length
  · rw [mayL_many hkn]
    simp only [optW]
    have hkn' : (n : Int) - 1 < (ks.length : Int) := by omega
    clear hkn ih hsz hnm hr hl
    clear ho
    rcases ho' with ⟨rfl, h⟩ | ⟨rfl, h⟩ | ⟨rfl, h⟩
    all_goals
      first | (have cM := fun W => rmany_yes 6 W (by omega)) | skip
      first | (have cM7 := fun W => rmany_yes 7 W (by omega)) | skip
      first | (have cM8 := fun W => rmany_no 8 W (by omega)) | skip
      go_enter Tryd.func67, Tryd.ntmps67
      go_wp2
      go_quiet ((first | (go_at_call 93; exact quiet_samen (cR _))))
      go_wp2_with (go_at_call 94; first | ((with_reducible refine (cM _).mono ?_); rintro e w2 ⟨rfl, rfl⟩) | ((with_reducible refine (cM7 _).mono ?_); rintro e w2 ⟨rfl, rfl⟩) | ((with_reducible refine (cM8 _).mono ?_); rintro e w2 ⟨rfl, rfl⟩))
      all_goals (try (exfalso; omega))
      all_goals (try (exact absurd (eq_of_beq h) (by assumption)))
      go_ret
      exact ⟨rfl, Gr.trans (Gr.alloc _ _) (Gr.drewN _ _)⟩
  · obtain ⟨M, hM⟩ : ∃ M, n - 1 = M := ⟨_, rfl⟩
    obtain ⟨D, hD⟩ : ∃ D, d - 1 = D := ⟨_, rfl⟩
    rw [hM, hD]
    have hM2 : (n : Int) - 1 = (M : Int) := by omega
    have hD2 : (d : Int) - 1 = (D : Int) := by omega
    have hkM : (ks.length : Int) ≤ (M : Int) := by omega
    have f1 : decide (M < ks.length) = false := decide_eq_false (by omega)
    have HO := Lib.hid (show ∀ st, mayL ks M D = st → optW (mayL ks M D) = optW st from fun st h => by rw [h])
    have hdm : D ≤ 1000 := by omega
    have hmm : M ≤ 1000 := by omega
    generalize hQ : mayL ks M D = Q at HO ⊢
    have HQ := Lib.hid hQ
    generalize hOQ : optW Q = oq at HO ⊢
    clear hQ hkn hM hD hOQ
    have hnk := nmOkL_all.1 hnm
    have HIH := Lib.hid ih
    clear hnm ih
    clear ho
    rcases ho' with ⟨rfl, h⟩ | ⟨rfl, h⟩ | ⟨rfl, h⟩
    all_goals
      first | (have cM := fun W => rmany_yes 6 W (by omega)) | skip
      first | (have cM7 := fun W => rmany_yes 7 W (by omega)) | skip
      first | (have cM8 := fun W => rmany_no 8 W (by omega)) | skip
      try (have f2 : decide ((ks.length : Int) < 2) = false := decide_eq_false (by omega))
      go_enter Tryd.func67, Tryd.ntmps67
      go_wp2
      go_quiet ((first | (go_at_call 93; exact quiet_samen (cR _))))
      go_wp2_with (go_at_call 94; first | ((with_reducible refine (cM _).mono ?_); rintro e w2 ⟨rfl, rfl⟩) | ((with_reducible refine (cM7 _).mono ?_); rintro e w2 ⟨rfl, rfl⟩) | ((with_reducible refine (cM8 _).mono ?_); rintro e w2 ⟨rfl, rfl⟩))
      all_goals (try (exfalso; omega))
      all_goals (try (exact absurd (eq_of_beq h) (by assumption)))
      go_loopw [1, 7] (fun v1 v7 wr => ∃ (k : Nat) (st : Option Nat), v7 = .int .i64 (k : Int) ∧ v1 = .int .i64 (optW st) ∧ k ≤ ks.length ∧ (∀ m, st = some m → m ≤ 1000) ∧ CntTo mayL ks M D k st ∧ Gr w wr ∧ wr.cell? ⟨w.heap.size, 4, none⟩ = some (.slice A ks.length c)) (fun _ v7 _ => ks.length - (intOf v7).toNat)
      case atStart => exact ⟨0, some M, rfl, by simp only [optW], Nat.zero_le _, by simp; omega, rfl, Gr.trans (Gr.alloc _ _) (Gr.drewN _ _), ((Gr.drewN _ _).cell (Blk.new w 39 _).lt).trans ((Blk.new w 39 _).cell 4)⟩
      case round =>
        obtain ⟨k, st, rfl, rfl, hk, hst, hT, hgw, b3⟩ := hrel
        have hblt := block_lt_of_cell b3
        cases st with
        | none =>
          have hz := HO.out _ (HQ.out ▸ hT.none)
          have HZ := Lib.hid hz
          rw [optW_none]
          clear hT hst hz
          by_cases hlt : k < ks.length
          · go_wp2
            all_goals (try (exfalso; omega))
            go_ret
            exact ⟨ret_w (by rw [HZ.out]; rfl), hgw⟩
          · go_wp2
            all_goals (try (exfalso; omega))
            go_ret
            exact ⟨ret_w (by rw [HZ.out]; rfl), hgw⟩
        | some m =>
          have hm1 := hst m rfl
          rw [optW_some]
          by_cases hlt : k < ks.length
          · obtain ⟨x, hxk⟩ : ∃ x, ks[k]? = some x := ⟨_, List.getElem?_eq_getElem hlt⟩
            obtain ⟨ad, P, v0, v1, v2, v3, v4, rfl, eP, hP, c0, c1, c2, c3, c4, hsx⟩ := kid_cells (hr.gr hgw) (hl.gr hgw) rfl k x hxk
            have hT2 := Lib.hid (hT.step may_cnt hxk)
            have hlt2 : ∀ q, mayS x m D = some q → q ≤ 1000 := fun q hq => by have := mayS_lt x m D q hq; omega
            have HL2 := Lib.hid hlt2
            have cL := HIH.out x _ wr m D (hsz k x hxk) hsx (hnk x (List.mem_of_getElem? hxk)) hm1 hdm
            generalize mayS x m D = st2 at *
            clear hT hst hxk hlt2
            go_wp2_with (go_at_call 67; (with_reducible refine cL.mono ?_); rintro e w1 ⟨rfl, hb1⟩)
            all_goals (try (exfalso; omega))
            go_roundw
            case rel => exact ⟨k + 1, st2, by go_num, rfl, by omega, HL2.out, hT2.out, Gr.trans hgw hb1, (hb1.cell hblt).trans b3⟩
            case measure => simp [intOf]; omega
          · obtain rfl : k = ks.length := by omega
            have hz := HO.out _ (HQ.out ▸ hT.end_ may_cnt)
            have HZ := Lib.hid hz
            clear hT hst hz
            go_wp2
            all_goals (try (exfalso; omega))
            go_ret
            exact ⟨ret_w (by rw [HZ.out]; rfl), hgw⟩
end Go.Proofs.YtppnlijeonneeaaDoor

namespace Go.Proofs.YtppnlijeonneeaaDoor
open Go Go.RowKit Go.Sort

set_option maxRecDepth 100000 in
set_option maxHeartbeats 4000000 in
theorem left_n : ∀ N : Nat, IHL N
  | 0 => by
    intro x v w n d hN _ _ _ _
    obtain ⟨op, nm, fr, to_, ks⟩ := x
    have : 0 < SizeOf.sizeOf (Sc.mk op nm fr to_ ks) := by rw [Sc.mk.sizeOf_spec]; omega
    omega
  | N + 1 => by
    intro x v w n d hN hx hnm hn hd
    have ih := left_n N
    obtain ⟨op, nm, fr, to_, ks⟩ := x
    obtain ⟨hs, hks⟩ := nmOk_mk.1 hnm
    obtain ⟨A, c, vs, rfl, ⟨hc, hcm⟩, hr, hl⟩ := hx.form
    clear hx
    have hsz : ∀ (k : Nat) (x : Sc), ks[k]? = some x → SizeOf.sizeOf x ≤ N := by
      intro k x hx
      have h1 := List.sizeOf_lt_of_mem (List.mem_of_getElem? hx)
      have h2 : SizeOf.sizeOf (Sc.mk op nm fr to_ ks) = 1 + SizeOf.sizeOf op + SizeOf.sizeOf nm + SizeOf.sizeOf fr + SizeOf.sizeOf to_ + SizeOf.sizeOf ks := Sc.mk.sizeOf_spec op nm fr to_ ks
      omega
    by_cases h0 : n = 0 ∨ d = 0
    · rw [mayS_0 h0]
      simp only [optW]
      unfold maxLen at hcm
      rcases (by omega : n < 1 ∨ (1 ≤ n ∧ d < 1)) with h | ⟨h, h'⟩
      all_goals
        clear h0 hsz ih hr hl
        go_enter Tryd.func67, Tryd.ntmps67
        go_wp2
        all_goals (try (exfalso; omega))
        go_ret
        exact ⟨rfl, Gr.alloc _ _⟩
    · have hn1 : 1 ≤ n := by omega
      have hd1 : 1 ≤ d := by omega
      rcases way_no (op := op) (nm := nm) (fr := fr) (to_ := to_) (ks := ks) h0 with ⟨hW, hm⟩ | ⟨hY, hm⟩
      · rw [hm]
        exact left_no op nm fr to_ A ks.length c w n d hn1 hd1 hn hd hs hc hcm hW
      · rw [hm]
        have hleaf : ks = [] → YesW op nm fr to_ 0 → Calls Tryd.prog 67 #[.agg #[.int .i64 op, .string nm, .int .i64 fr, .int .i64 to_, .slice A ks.length c], .int .i64 (n : Int), .int .i64 (d : Int)] w fun e w' => e = .returned (.int .i64 (optW (mayL ks (n - 1) (d - 1)))) ∧ Gr w w' := by
          intro e hY0
          subst e
          rw [mayL_nil, optW_some, show ((n - 1 : Nat) : Int) = (n : Int) - 1 by omega]
          exact left_leaf op nm fr to_ A c w n d hn1 hd1 hn hd hs hcm hY0
        cases hY with
        | name h h2 h3 h4 h5 h6 => exact hleaf (List.eq_nil_of_length_eq_zero h6) (.name h h2 h3 h4 h5 rfl)
        | time h h2 h4 h5 h7 h6 => exact hleaf (List.eq_nil_of_length_eq_zero h6) (.time h h2 h4 h5 h7 rfl)
        | all h h2 h4 h5 h6 => exact hleaf (List.eq_nil_of_length_eq_zero h6) (.all h h2 h4 h5 rfl)
        | list h h2 h4 h5 h6 =>
          subst h2 h4 h5
          exact left_list N ih op ks A c vs w n d hn1 hd1 hn hd hc hcm hsz hks hr hl (by omega)
        | neg h h2 h4 h5 h6 =>
          subst h2 h4 h5
          exact left_list N ih op ks A c vs w n d hn1 hd1 hn hd hc hcm hsz hks hr hl (by omega)
theorem May_any (x : Sc) (v : Value) (w : World) (hx : RdSc w (· < w.heap.size) x v) (hnm : nmOk x = true) : Calls Tryd.prog 46 #[v] w fun e w' => e = .returned (.bool (mayS x 24 8).isSome) ∧ Gr w w' := by
  have hL := left_n (SizeOf.sizeOf x) x
  obtain ⟨op, nm, fr, to_, ks⟩ := x
  obtain ⟨A, c, vs, rfl, _⟩ := hx.form
  have cL : ∀ W, Gr w W → Calls Tryd.prog 67 #[.agg #[.int .i64 op, .string nm, .int .i64 fr, .int .i64 to_, .slice A ks.length c], .int .i64 24, .int .i64 8] W fun e w' => e = .returned (.int .i64 (optW (mayS (.mk op nm fr to_ ks) 24 8))) ∧ Gr W w' := fun W hg => hL _ W 24 8 (Nat.le_refl _) (hx.gr hg) hnm (by omega) (by omega)
  have hz : (mayS (.mk op nm fr to_ ks) 24 8).isSome = decide (0 ≤ optW (mayS (.mk op nm fr to_ ks) 24 8)) := by
    cases mayS (.mk op nm fr to_ ks) 24 8 with
    | none => rfl
    | some m => simp [optW]
  rw [hz]
  generalize optW (mayS (.mk op nm fr to_ ks) 24 8) = q at *
  clear hz hL
  go_enter Tryd.func46, Tryd.ntmps46
  go_wp2_with (go_at_call 67; (with_reducible refine (cL _ (Gr.alloc _ _)).mono ?_); rintro e w1 ⟨rfl, hb1⟩)
  go_ret
  exact ⟨rfl, Gr.trans (Gr.alloc _ _) hb1⟩
end Go.Proofs.YtppnlijeonneeaaDoor
