/- Scopes: may one be? the reference's count. -/
import Derived.Test.YtppnlijeonneeaaDoorPkB
namespace Go.Proofs.YtppnlijeonneeaaDoor
open Go Go.RowKit Go.Sort

set_option maxRecDepth 100000 in
set_option maxHeartbeats 8000000 in
theorem left_no (op : Int) (nm : ByteArray) (fr to_ : Int) (A : Option Addr) (len c : Nat) (w : World) (n d : Nat) (hn : 1 ≤ n) (hd : 1 ≤ d) (hn1 : n ≤ 1000) (hd1 : d ≤ 1000) (hs : nm.size ≤ 2000) (_hc : len ≤ c) (_hcm : c ≤ maxLen) (hW : WayW op nm fr to_ len) :
    Calls Tryd.prog 67 #[.agg #[.int .i64 op, .string nm, .int .i64 fr, .int .i64 to_, .slice A len c], .int .i64 (n : Int), .int .i64 (d : Int)] w fun e w' => e = .returned (.int .i64 (-1)) ∧ Gr w w' := by
  unfold maxLen at _hcm
  have cN := fun W => refname_any nm W (by omega)
  cases hW with
  | op h =>
    clear cN
    rcases h with h | h
    all_goals
      go_enter Tryd.func67, Tryd.ntmps67
      go_wp2
      all_goals (try (exfalso; omega))
      go_ret
      exact ⟨rfl, Gr.alloc _ _⟩
  | noname h h2 =>
    subst h2
    have cR := fun W => rnamed_yes op W (by omega)
    rcases h with rfl | rfl | rfl
    all_goals
      go_enter Tryd.func67, Tryd.ntmps67
      go_wp2
      go_quiet ((first | (go_at_call 93; exact quiet_samen (cR _)) | (go_at_call 42; exact quiet_samen (cN _))))
      go_wp2
      all_goals (try (exfalso; omega))
      go_ret
      exact ⟨rfl, Gr.trans (Gr.alloc _ _) (Gr.drewN _ _)⟩
  | badname h h2 h3 =>
    obtain ⟨s1, s2, s3⟩ := wr_nil h2
    have cR := fun W => rnamed_yes op W (by omega)
    rw [h3] at cN
    clear h3
    rcases h with rfl | rfl | rfl
    all_goals
      go_enter Tryd.func67, Tryd.ntmps67
      go_wp2
      go_quiet ((first | (go_at_call 93; exact quiet_samen (cR _)) | (go_at_call 42; exact quiet_samen (cN _))))
      go_wp2
      all_goals (try (exfalso; omega))
      go_ret
      exact ⟨rfl, Gr.trans (Gr.alloc _ _) (Gr.drewN _ _)⟩
  | named h h2 =>
    obtain ⟨s1, s2, s3⟩ := wr_nil h2
    have cR := fun W => rnamed_no op W (by omega)
    clear cN
    rcases h with rfl | rfl | rfl | rfl | rfl
    all_goals
      go_enter Tryd.func67, Tryd.ntmps67
      go_wp2
      go_quiet ((first | (go_at_call 93; exact quiet_samen (cR _)) | (go_at_call 42; exact quiet_samen (cN _))))
      go_wp2
      all_goals (try (exfalso; omega))
      go_ret
      exact ⟨rfl, Gr.trans (Gr.alloc _ _) (Gr.drewN _ _)⟩
  | time h h2 h3 =>
    subst h h2
    have cR := fun W => rnamed_no 5 W (by omega)
    clear cN
    rcases h3 with h | ⟨h, h'⟩ | ⟨h, h', h''⟩
    all_goals
      go_enter Tryd.func67, Tryd.ntmps67
      go_wp2
      go_quiet ((first | (go_at_call 93; exact quiet_samen (cR _)) | (go_at_call 42; exact quiet_samen (cN _))))
      go_wp2
      all_goals (try (exfalso; omega))
      go_ret
      exact ⟨rfl, Gr.trans (Gr.alloc _ _) (Gr.drewN _ _)⟩
  | span1 h h2 h3 h4 =>
    obtain ⟨s1, s2, s3⟩ := wr_nil h2
    have cR := fun W => rnamed_yes op W (by omega)
    rw [h3] at cN
    clear h3
    rcases h4 with h4 | ⟨rfl, h4⟩
    all_goals
      have y1 := beq_eq_false_iff_ne.2 h4
      rcases h with rfl | rfl | rfl
      all_goals
        go_enter Tryd.func67, Tryd.ntmps67
        go_wp2
        go_quiet ((first | (go_at_call 93; exact quiet_samen (cR _)) | (go_at_call 42; exact quiet_samen (cN _))))
        go_wp2
        all_goals (try (exfalso; omega))
        go_ret
        exact ⟨rfl, Gr.trans (Gr.alloc _ _) (Gr.drewN _ _)⟩
  | span2 h h2 h4 =>
    subst h2
    have cR := fun W => rnamed_no op W (by omega)
    clear cN
    rcases h4 with h4 | ⟨rfl, h4⟩
    all_goals
      have y1 := beq_eq_false_iff_ne.2 h4
      rcases h with rfl | rfl | rfl | rfl
      all_goals
        go_enter Tryd.func67, Tryd.ntmps67
        go_wp2
        go_quiet ((first | (go_at_call 93; exact quiet_samen (cR _)) | (go_at_call 42; exact quiet_samen (cN _))))
        go_wp2
        all_goals (try (exfalso; omega))
        go_ret
        exact ⟨rfl, Gr.trans (Gr.alloc _ _) (Gr.drewN _ _)⟩
  | kids1 h h2 h3 h4 h5 h6 =>
    subst h4 h5
    obtain ⟨s1, s2, s3⟩ := wr_nil h2
    have cR := fun W => rnamed_yes op W (by omega)
    rw [h3] at cN
    clear h3
    have h7 : (0 : Int) < (len : Int) := by omega
    rcases h with rfl | rfl | rfl
    all_goals
      go_enter Tryd.func67, Tryd.ntmps67
      go_wp2
      go_quiet ((first | (go_at_call 93; exact quiet_samen (cR _)) | (go_at_call 42; exact quiet_samen (cN _))))
      go_wp2
      all_goals (try (exfalso; omega))
      go_ret
      exact ⟨rfl, Gr.trans (Gr.alloc _ _) (Gr.drewN _ _)⟩
  | kids2 h h2 h4 h5 h7 h6 =>
    subst h h2
    have cR := fun W => rnamed_no 5 W (by omega)
    clear cN
    have h8 : (0 : Int) < (len : Int) := by omega
    go_enter Tryd.func67, Tryd.ntmps67
    go_wp2
    go_quiet ((first | (go_at_call 93; exact quiet_samen (cR _)) | (go_at_call 42; exact quiet_samen (cN _))))
    go_wp2
    all_goals (try (exfalso; omega))
    go_ret
    exact ⟨rfl, Gr.trans (Gr.alloc _ _) (Gr.drewN _ _)⟩
  | kids3 h h2 h4 h5 h6 =>
    subst h h2 h4 h5
    have cR := fun W => rnamed_no 1 W (by omega)
    clear cN
    have h8 : (0 : Int) < (len : Int) := by omega
    go_enter Tryd.func67, Tryd.ntmps67
    go_wp2
    go_quiet ((first | (go_at_call 93; exact quiet_samen (cR _)) | (go_at_call 42; exact quiet_samen (cN _))))
    go_wp2
    all_goals (try (exfalso; omega))
    go_ret
    exact ⟨rfl, Gr.trans (Gr.alloc _ _) (Gr.drewN _ _)⟩
  | kids4 h h2 h4 h5 h6 =>
    subst h2 h4 h5
    have cR := fun W => rnamed_no op W (by omega)
    clear cN
    have h8 : (len : Int) < 2 := by omega
    rcases h with rfl | rfl
    all_goals
      go_enter Tryd.func67, Tryd.ntmps67
      go_wp2
      go_quiet ((first | (go_at_call 93; exact quiet_samen (cR _)) | (go_at_call 42; exact quiet_samen (cN _))))
      go_wp2
      all_goals (try (exfalso; omega))
      go_ret
      exact ⟨rfl, Gr.trans (Gr.alloc _ _) (Gr.drewN _ _)⟩
  | kids5 h h2 h4 h5 h6 =>
    subst h h2 h4 h5
    have cR := fun W => rnamed_no 8 W (by omega)
    clear cN
    have h8 : ((len : Int) == 1) = false := beq_eq_false_iff_ne.2 (by omega)
    have h9 : ¬ (len : Int) = 1 := by omega
    go_enter Tryd.func67, Tryd.ntmps67
    go_wp2
    go_quiet ((first | (go_at_call 93; exact quiet_samen (cR _)) | (go_at_call 42; exact quiet_samen (cN _))))
    go_wp2
    all_goals (try (exfalso; omega))
    go_ret
    exact ⟨rfl, Gr.trans (Gr.alloc _ _) (Gr.drewN _ _)⟩
end Go.Proofs.YtppnlijeonneeaaDoor
