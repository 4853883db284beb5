/- Events: whether a record ends, an event as a text. -/
import Derived.Test.YteoidkjiigjlaaaDoorEvMay
import Derived.Test.YteoidkjiigjlaaaDoorSpanR
namespace Go.Proofs.YteoidkjiigjlaaaDoor
open Go Go.RowKit Go.Sort

/-- Does a record end by it? -/
def endsD (k t : Int) (a b : ByteArray) : Bool := mayD k t a b && decide (k = 10 ∨ k = 11)
section
variable (k t : Int) (a b : ByteArray) (w : World)
set_option maxRecDepth 100000 in
theorem ends_any (hk : k ≤ 9223372036854775807) (ha : a.size ≤ 140737488351232) (hb : b.size ≤ 140737488351232) :
    Calls Tryd.prog 18 #[evV k t a b] w fun e w' => e = .returned (.bool (endsD k t a b)) ∧ Gr w w' := by
  unfold endsD evV evC
  have hc := fun W => check_any k t a b W hk ha hb
  unfold evV evC at hc
  generalize mayD k t a b = m at hc ⊢
  rcases (by omega : k = 10 ∨ k = 11 ∨ k ≠ 10 ∧ k ≠ 11) with rfl | rfl | h <;> cases m
  all_goals
    go_enter Tryd.func18, Tryd.ntmps18
    go_wp2_with (go_at_call 15; (with_reducible refine (hc _).mono ?_); rintro e w1 ⟨rfl, hb1⟩
                 have hG := Gr.trans (Gr.alloc w _) hb1
                 have hB1 := (Blk.new w _ _).below hb1 (Blk.new w _ _).lt
                 obtain ⟨c10, c11, c12, c13⟩ := four_cells hB1)
    go_ret
    refine ⟨ret_bool ?_, hG⟩
    first | rfl | simp [h]
set_option maxRecDepth 100000 in
theorem refends_any (ha : a.size ≤ 140737488351232) (hb : b.size ≤ 140737488351232) :
    Calls Tryd.prog 19 #[evV k t a b] w fun e w' => e = .returned (.bool (endsD k t a b)) ∧ Gr w w' := by
  unfold endsD evV evC
  have hc := fun W => refmay_any k t a b W ha hb
  unfold evV evC at hc
  generalize mayD k t a b = m at hc ⊢
  rcases (by omega : k = 10 ∨ k = 11 ∨ k ≠ 10 ∧ k ≠ 11) with rfl | rfl | h <;> cases m
  all_goals
    go_enter Tryd.func19, Tryd.ntmps19
    go_wp2_with (go_at_call 44; (with_reducible refine (hc _).mono ?_); rintro e w1 ⟨rfl, hb1⟩
                 have hG := Gr.trans (Gr.alloc w _) hb1
                 have hB1 := (Blk.new w _ _).below hb1 (Blk.new w _ _).lt
                 obtain ⟨c10, c11, c12, c13⟩ := four_cells hB1)
    go_ret
    refine ⟨ret_bool ?_, hG⟩
    first | rfl | simp [h]
end

def sp : ByteArray := ⟨#[32]⟩
/-- A part of a text behind a blank. -/
def partD (s : ByteArray) : ByteArray := if s.toList.isEmpty then ⟨#[]⟩ else ⟨#[32]⟩ ++ s
/-- An event as a text. -/
def evTextD (k t : Int) (a b : ByteArray) : ByteArray := if mayD k t a b then str (Lib.itoa t) ++ ⟨#[32]⟩ ++ wordD k ++ partD a ++ partD b else ⟨#[]⟩

theorem app_nil (s : ByteArray) : s ++ (⟨#[]⟩ : ByteArray) = s := ByteArray.append_empty
theorem word14_at : ∀ n : Nat, n < 14 → (#[.string ⟨#[115, 99, 104, 101, 100, 117, 108, 101]⟩, .string ⟨#[99, 97, 115, 101]⟩, .string ⟨#[115, 117, 98, 106, 101, 99, 116]⟩, .string ⟨#[105, 110, 103, 101, 115, 116]⟩, .string ⟨#[109, 105, 108, 101]⟩, .string ⟨#[114, 101, 99, 108, 97, 115, 115]⟩, .string ⟨#[104, 111, 108, 100]⟩, .string ⟨#[114, 101, 108, 101, 97, 115, 101]⟩, .string ⟨#[97, 109, 101, 110, 100]⟩, .string ⟨#[112, 117, 114, 103, 101]⟩, .string ⟨#[101, 114, 97, 115, 101]⟩, .string ⟨#[115, 104, 114, 101, 100]⟩, .string ⟨#[107, 101, 101, 112]⟩, .string ⟨#[114, 101, 100, 97, 99, 116]⟩] : Array Value)[n]? = some (.string (wordD ((n : Int) + 1)))
  | 0, _ => rfl | 1, _ => rfl | 2, _ => rfl | 3, _ => rfl | 4, _ => rfl | 5, _ => rfl | 6, _ => rfl | 7, _ => rfl | 8, _ => rfl | 9, _ => rfl | 10, _ => rfl | 11, _ => rfl | 12, _ => rfl | 13, _ => rfl
  | k + 14, h => by omega
theorem word_size (k : Int) : (wordD k).size ≤ 8 := by
  unfold wordD
  split
  · exact Nat.zero_le _
  · obtain ⟨n, rfl⟩ : ∃ n : Nat, k = n := ⟨k.toNat, by omega⟩
    rw [Int.toNat_natCast]
    by_cases h : n < 15
    · have : ∀ n : Nat, n < 15 → (wordsL.getD n ⟨#[]⟩).size ≤ 8 := by decide
      exact this n h
    · rw [List.getD_eq_getElem?_getD, List.getElem?_eq_none (by simp [wordsL]; omega)]
      exact Nat.zero_le _
theorem sp_size : (⟨#[32]⟩ : ByteArray).size = 1 := rfl
theorem app_size (a b : ByteArray) : (a ++ b).size = a.size + b.size := ByteArray.size_append
theorem nm_size (s : ByteArray) (h : nmD s = true) : s.size ≤ 16 := by
  unfold nmD at h
  rw [Bool.or_eq_true] at h
  rcases h with h | h
  · rw [ByteArray.toList_eq] at h
    have : s.data.toList.length = 0 := by
      cases hl : s.data.toList with
      | nil => rfl
      | cons => rw [hl] at h; cases h
    have : s.size = 0 := by simpa using this
    omega
  · unfold nameD at h
    rw [Bool.and_eq_true, decide_eq_true_eq] at h
    exact h.2.2
theorem may_true {k t : Int} {a b : ByteArray} (h : mayD k t a b = true) : 1 ≤ k ∧ k ≤ 14 ∧ 0 ≤ t ∧ t ≤ 1099511627776 ∧ nmD a = true ∧ nmD b = true := by
  unfold mayD at h
  simp only [Bool.and_eq_true, decide_eq_true_eq] at h
  exact ⟨h.1.1.1.1, h.1.1.1.2, h.1.1.2.1, h.1.1.2.2, h.1.2, h.2⟩

section
variable (k t : Int) (a b : ByteArray) (w : World)
set_option maxRecDepth 100000 in
set_option maxHeartbeats 2000000 in
theorem evtext_any (hP : Pow w) (hk : k ≤ 9223372036854775807) (ha : a.size ≤ 140737488351232) (hb : b.size ≤ 140737488351232) :
    Calls Tryd.prog 16 #[evV k t a b] w fun e w' => e = .returned (.string (evTextD k t a b)) ∧ Gr w w' := by
  unfold evTextD evV evC
  have hc := fun W => check_any k t a b W hk ha hb
  unfold evV evC at hc
  cases hm : mayD k t a b
  · rw [hm] at hc
    go_enter Tryd.func16, Tryd.ntmps16
    go_wp2_with (go_at_call 15; (with_reducible refine (hc _).mono ?_); rintro e w1 ⟨rfl, hb1⟩
                 have hG := Gr.trans (Gr.alloc w _) hb1
                 have hB1 := (Blk.new w _ _).below hb1 (Blk.new w _ _).lt
                 obtain ⟨c10, c11, c12, c13⟩ := four_cells hB1)
    go_ret
    exact ⟨rfl, hG⟩
  · rw [hm] at hc
    obtain ⟨k1, k2, t0, t1, na, nb⟩ := may_true hm
    have sa := nm_size a na
    have sb := nm_size b nb
    have sW := word_size k
    have sT := itoa_size t t0 t1
    have HP := Lib.hid hP
    have HW := fun W => word_any k W hk
    have HI := fun W hP => itoa_any t W hP (by omega) (by omega)
    clear hP na nb hm
    generalize wordD k = x at HW sW
    generalize str (Lib.itoa t) = T at HI sT
    go_enter Tryd.func16, Tryd.ntmps16
    go_wp2_with (go_at_call 15; (with_reducible refine (hc _).mono ?_); rintro e w1 ⟨rfl, hb1⟩
                 have hG := Gr.trans (Gr.alloc w _) hb1
                 have hB1 := (Blk.new w _ _).below hb1 (Blk.new w _ _).lt
                 obtain ⟨c10, c11, c12, c13⟩ := four_cells hB1)
    have q0 := cell_regrown c10
    have q1 := cell_regrown c11
    have cI : ∀ d os, Calls Tryd.prog 49 #[.int .i64 t] (grow (redrawn w1 d) os) fun e w'' => e = .returned (.string T) ∧ ∃ p : Regrown, w'' = grow (redrawn w1 p.d) p.os := fun d os => Calls.regrown_of (HI _ ((HP.out.below hG).below (below_regrown w1 d os)))
    have cW : ∀ d os, Calls Tryd.prog 47 #[.int .i64 k] (grow (redrawn w1 d) os) fun e w'' => e = .returned (.string x) ∧ ∃ p : Regrown, w'' = grow (redrawn w1 p.d) p.os := fun d os => Calls.regrown_of (HW _)
    have r1 : ¬ 9223372036854775807 < T.size + 1 := by omega
    have r2 : ¬ 9223372036854775807 < T.size + 1 + x.size := by omega
    refine wp_region_quiet_below (by kernel_rfl) (by kernel_rfl) ?_
    repeat (first | quiet_step (exact cI _ _) | quiet_step (exact cW _ _))
    refine wpQuiet_nil ?_
    intro _ hw'
    obtain ⟨⟨dq, osq⟩, hw''⟩ := hw'
    subst hw''
    have hb2 : Gr w1 (grow (redrawn w1 dq) osq) := below_regrown w1 dq osq
    generalize grow (redrawn w1 dq) osq = w2 at hb2 ⊢
    have hG2 := Gr.trans hG hb2
    have hB2 := hB1.below hb2 hB1.lt
    obtain ⟨c20, c21, c22, c23⟩ := four_cells hB2
    clear q0 q1 cI cW hc HI HW c10 c11 c12 c13 hB1 hG hb1
    have sS : (T ++ ⟨#[32]⟩ ++ x).size ≤ 29 := by rw [app_size, app_size, sp_size]; omega
    clear r1 r2
    obtain ⟨s0, hS0⟩ : ∃ s0, T ++ ⟨#[32]⟩ ++ x = s0 := ⟨_, rfl⟩
    rw [hS0] at sS ⊢
    have HS := Lib.hid hS0
    clear hS0
    have q1 : ¬ 9223372036854775807 < 1 + a.size := by omega
    have q2 : ¬ 9223372036854775807 < 1 + b.size := by omega
    have q3 : ¬ 9223372036854775807 < s0.size + (1 + a.size) := by omega
    have q4 : ¬ 9223372036854775807 < s0.size + (1 + b.size) := by omega
    have q5 : ¬ 9223372036854775807 < s0.size + (1 + a.size) + (1 + b.size) := by omega
    cases eA : a.toList.isEmpty <;> cases eB : b.toList.isEmpty
    all_goals
      have HA := Lib.hid eA
      have HB := Lib.hid eB
      go_wp2
      refine wp_loop_rounds 3 ?_
      rw [rounds_succ]
      go_wp2
      rw [rounds_succ]
      go_wp2
      rw [rounds_succ]
      go_wp2
      go_ret
      refine ⟨ret_str ?_, Gr.trans hG2 (Gr.alloc _ _)⟩
      unfold partD
      simp only [HA.out, HB.out, HS.out, app_nil, if_true, Bool.false_eq_true, if_false]

set_option maxRecDepth 100000 in
set_option maxHeartbeats 2000000 in
theorem refevtext_any (hk : k ≤ 9223372036854775807) (ha : a.size ≤ 140737488351232) (hb : b.size ≤ 140737488351232) :
    Calls Tryd.prog 17 #[evV k t a b] w fun e w' => e = .returned (.string (evTextD k t a b)) ∧ Gr w w' := by
  unfold evTextD evV evC
  have hc := fun W => refmay_any k t a b W ha hb
  unfold evV evC at hc
  cases hm : mayD k t a b
  · rw [hm] at hc
    go_enter Tryd.func17, Tryd.ntmps17
    go_wp2_with (go_at_call 44; (with_reducible refine (hc _).mono ?_); rintro e w1 ⟨rfl, hb1⟩
                 have hG := Gr.trans (Gr.new (Gr.alloc w _) _) hb1)
    go_ret
    exact ⟨rfl, hG⟩
  · rw [hm] at hc
    obtain ⟨k1, k2, t0, t1, na, nb⟩ := may_true hm
    have sa := nm_size a na
    have sb := nm_size b nb
    obtain ⟨n, rfl⟩ : ∃ n : Nat, k = (n : Int) + 1 := ⟨(k - 1).toNat, by omega⟩
    have sW := word_size ((n : Int) + 1)
    have HN := word14_at n (by omega)
    have sT := itoa_size t t0 t1
    have HI := fun W => Tell_any t W t0 (by omega)
    clear na nb hm
    generalize str (Lib.itoa t) = T at HI sT
    generalize wordD ((n : Int) + 1) = x at HN sW
    go_enter Tryd.func17, Tryd.ntmps17
    go_wp2_with (go_at_call 44; (with_reducible refine (hc _).mono ?_); rintro e w1 ⟨rfl, hb1⟩
                 have hG := Gr.trans (Gr.new (Gr.alloc w _) _) hb1
                 have hB1 := ((Blk.new w _ _).alloc _).below hb1 ((Blk.new w _ _).alloc _).lt
                 have hW1 := (Blk.new (w.alloc _) _ _).below hb1 (Blk.new _ _ _).lt
                 obtain ⟨c10, c11, c12, c13⟩ := four_cells hB1)
    have hn14 : n < 14 := by omega
    have hwn : IntKind.i64.wrap (n : Int) = n := by rw [IntKind.wrap_i64]; omega
    have hn0 : 0 ≤ (n : Int) ∧ (n : Int) < 14 := by omega
    have c1w := (hW1.cell n).trans HN
    simp only [World.alloc, Array.size_push] at c1w
    have q0 := cell_regrown c10
    have q1 := cell_regrown c11
    have q2 := cell_regrown c1w
    have cI : ∀ d os, Calls Tryd.prog 50 #[.int .i64 t] (grow (redrawn w1 d) os) fun e w'' => e = .returned (.string T) ∧ ∃ p : Regrown, w'' = grow (redrawn w1 p.d) p.os := fun d os => (HI (grow (redrawn w1 d) os)).mono fun _ _ h => ⟨h.1, ⟨d, os⟩, h.2.symm⟩
    have r1 : ¬ 9223372036854775807 < T.size + 1 := by omega
    have r2 : ¬ 9223372036854775807 < T.size + 1 + x.size := by omega
    refine wp_region_quiet_below (by kernel_rfl) (by kernel_rfl) ?_
    repeat (quiet_step (exact cI _ _))
    refine wpQuiet_nil ?_
    intro _ hw'
    obtain ⟨⟨dq, osq⟩, hw''⟩ := hw'
    subst hw''
    have hb2 : Gr w1 (grow (redrawn w1 dq) osq) := below_regrown w1 dq osq
    generalize grow (redrawn w1 dq) osq = w2 at hb2 ⊢
    have hG2 := Gr.trans hG hb2
    have hB2 := hB1.below hb2 hB1.lt
    obtain ⟨c20, c21, c22, c23⟩ := four_cells hB2
    clear k1 k2 hk c20 hB2 q0 q1 q2 cI hc HI hwn hn0 hn14 c1w HN hW1 c10 c11 c12 c13 hB1 hG hb1
    have sS : (T ++ ⟨#[32]⟩ ++ x).size ≤ 29 := by rw [app_size, app_size, sp_size]; omega
    clear r1 r2
    obtain ⟨s0, hS0⟩ : ∃ s0, T ++ ⟨#[32]⟩ ++ x = s0 := ⟨_, rfl⟩
    rw [hS0] at sS ⊢
    have HS := Lib.hid hS0
    clear hS0
    have q1 : ¬ 9223372036854775807 < s0.size + 1 := by omega
    have q2 : ¬ 9223372036854775807 < s0.size + 1 + a.size := by omega
    have q3 : ¬ 9223372036854775807 < s0.size + 1 + b.size := by omega
    have q4 : ¬ 9223372036854775807 < s0.size + 1 + a.size + 1 := by omega
    have q5 : ¬ 9223372036854775807 < s0.size + 1 + a.size + 1 + b.size := by omega
    cases eA : a.toList.isEmpty <;> cases eB : b.toList.isEmpty
    all_goals
      have HA := Lib.hid eA
      have HB := Lib.hid eB
      go_wp2
      go_ret
      refine ⟨ret_str ?_, hG2⟩
      unfold partD
      simp only [HA.out, HB.out, HS.out, app_nil, if_true, Bool.false_eq_true, if_false, ByteArray.append_assoc]
end
end Go.Proofs.YteoidkjiigjlaaaDoor
