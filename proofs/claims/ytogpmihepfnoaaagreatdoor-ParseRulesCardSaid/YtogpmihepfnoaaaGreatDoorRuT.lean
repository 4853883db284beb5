/- Conditions as texts: plain laws, acts, the reference's Expr. -/
import Derived.Test.YtogpmihepfnoaaaGreatDoorRuD
namespace Go.Proofs.YtogpmihepfnoaaaGreatDoor
open Go Go.RowKit Go.Sort

theorem ba_app (a b : List UInt8) : ba a ++ ba b = ba (a ++ b) := str_app a b
theorem join_snoc (sep t : List UInt8) : ∀ l : List (List UInt8), l ≠ [] → Lib.join (l ++ [t]) sep = Lib.join l sep ++ (sep ++ t)
  | [], h => absurd rfl h
  | [a], _ => by simp [Lib.join, List.intercalate]
  | a :: b :: r, _ => by
    have ih := join_snoc sep t (b :: r) (by simp)
    have e : ∀ l : List (List UInt8), l ≠ [] → Lib.join (a :: l) sep = a ++ (sep ++ Lib.join l sep) := by
      intro l hl
      cases l with
      | nil => exact absurd rfl hl
      | cons x y => simp [Lib.join, List.intercalate]
    rw [List.cons_append, e _ (by simp), ih, e _ (by simp)]
    simp
theorem sumL_take (l : List (List UInt8)) (k : Nat) : sumL (l.take k) ≤ sumL l := by
  induction l generalizing k with
  | nil => simp
  | cons a r ih =>
    cases k with
    | zero => simp [sumL]
    | succ k => rw [List.take_succ_cons, sumL_cons, sumL_cons]; have := ih k; omega
theorem join_take (sep : List UInt8) (l : List (List UInt8)) (k : Nat) : (Lib.join (l.take k) sep).length ≤ sumL l + l.length * sep.length := by
  by_cases h : l.take k = []
  · rw [h, Lib.join_nil]; exact Nat.zero_le _
  · have h1 := join_len sep (l.take k) h
    have h2 := sumL_take l k
    have h3 : (l.take k).length * sep.length ≤ l.length * sep.length := Nat.mul_le_mul_right _ (by rw [List.length_take]; omega)
    omega
theorem exprL_1 (days : Int) (mile : ByteArray) (ks : List Ex) : exprL (.mk 1 days mile ks) = textD days ++ [32, 97, 102, 116, 101, 114, 32] ++ mile.data.toList := by rw [exprL, if_pos rfl]
theorem exprL_2 {op days : Int} {mile : ByteArray} {ks : List Ex} (h : op ≠ 1) : exprL (.mk op days mile ks) = Lib.join (partsL op ks) (sepL op) := by rw [exprL, if_neg h]
/-- A part of a condition that may be, may be. -/
theorem mayXL_at : ∀ (ks : List Ex) (n d m k : Nat) (x : Ex), mayXL ks n d = some m → ks[k]? = some x → ∃ n' m', n' ≤ n ∧ mayX x n' d = some m'
  | [], _, _, _, _, _, _, h => by simp at h
  | y :: ys, n, d, m, 0, x, h, hx => by
    simp only [List.getElem?_cons_zero, Option.some.injEq] at hx
    subst hx
    rw [mayXL_cons] at h
    cases hy : mayX y n d with
    | none => rw [hy] at h; cases h
    | some q => exact ⟨n, q, Nat.le_refl _, hy⟩
  | y :: ys, n, d, m, k + 1, x, h, hx => by
    simp only [List.getElem?_cons_succ] at hx
    rw [mayXL_cons] at h
    cases hy : mayX y n d with
    | none => rw [hy] at h; cases h
    | some q =>
      rw [hy] at h
      obtain ⟨n', m', h1, h2⟩ := mayXL_at ys q d m k x h hx
      exact ⟨n', m', by have := mayX_lt y n d q hy; omega, h2⟩
/-- The kinds of conditions that may be. -/
theorem mayX_kind {op days : Int} {mile : ByteArray} {ks : List Ex} {n d m : Nat} (h : mayX (.mk op days mile ks) n d = some m) :
    (op = 1 ∧ 0 ≤ days ∧ days ≤ 1048576 ∧ mile.size ≤ 16) ∨ ((op = 2 ∨ op = 3) ∧ 2 ≤ ks.length ∧ mayXL ks (n - 1) (d - 1) = some m) := by
  by_cases h0 : n = 0 ∨ d = 0
  · rw [mayX_0 h0] at h; cases h
  · by_cases ho : op = 1
    · subst ho
      rw [mayX_1 h0] at h
      split at h
      · rename_i hc
        refine .inl ⟨rfl, hc.1, hc.2.1, ?_⟩
        have h3 := hc.2.2.1
        unfold mileD at h3
        simp only [Bool.and_eq_true, decide_eq_true_eq] at h3
        omega
      · cases h
    · rw [mayX_2 h0 ho] at h
      split at h
      · rename_i hc
        exact .inr ⟨hc.1, hc.2.2.2, h⟩
      · cases h
def actL (n : Int) : List UInt8 := if n = 1 then [100, 101, 115, 116, 114, 111, 121] else if n = 2 then [114, 101, 118, 105, 101, 119] else [107, 101, 101, 112]
theorem ract_any (n : Int) (w : World) : Calls Tryz.prog 20 #[.int .i64 n] w fun e w' => e = .returned (.string (ba (actL n))) ∧ w = w' := by
  unfold actL
  by_cases h1 : n = 1
  · subst h1
    go_enter Tryz.func20, Tryz.ntmps20
    go_wp2
    go_ret
    exact ⟨rfl, rfl⟩
  · by_cases h2 : n = 2
    · subst h2
      go_enter Tryz.func20, Tryz.ntmps20
      go_wp2
      go_ret
      exact ⟨rfl, rfl⟩
    · rw [if_neg h1, if_neg h2]
      have y1 : (n == 1) = false := by simp [h1]
      have y2 : (n == 2) = false := by simp [h2]
      go_enter Tryz.func20, Tryz.ntmps20
      go_wp2
      go_ret
      exact ⟨rfl, rfl⟩
theorem after_text (days : Int) (mile : ByteArray) : str (textD days) ++ ⟨#[32, 97, 102, 116, 101, 114, 32]⟩ ++ mile = ba (textD days ++ [32, 97, 102, 116, 101, 114, 32] ++ mile.data.toList) := by
  have h1 : (⟨#[32, 97, 102, 116, 101, 114, 32]⟩ : ByteArray) = ba [32, 97, 102, 116, 101, 114, 32] := rfl
  have h2 : mile = ba mile.data.toList := rfl
  have h3 : str (textD days) = ba (textD days) := rfl
  rw [h1, h3, ba_app]
  conv => lhs; rw [h2]
  rw [ba_app]
set_option maxRecDepth 100000 in
set_option maxHeartbeats 2000000 in
theorem rexpr_1 (days : Int) (mile : ByteArray) (A : Option Addr) (n c : Nat) (w : World) (h0 : 0 ≤ days) (h1 : days ≤ 1048576) (hm : mile.size ≤ 16) :
    Calls Tryz.prog 19 #[.agg #[.int .i64 1, .int .i64 days, .string mile, .slice A n c]] w fun e w' => e = .returned (.string (ba (textD days ++ [32, 97, 102, 116, 101, 114, 32] ++ mile.data.toList))) ∧ Gr w w' := by
  have hts := text_size days h0 h1
  have cT := fun W => reftext_any days W
  have ht := after_text days mile
  have hsz : (str (textD days)).size = (textD days).length := rfl
  have HT := Lib.hid ht
  generalize str (textD days) = T at *
  have q1 : ¬ 9223372036854775807 < T.size + 7 := by omega
  have q2 : ¬ 9223372036854775807 < T.size + 7 + mile.size := by omega
  clear ht
  obtain ⟨b0, b1, b2, b3⟩ := four_ex (Blk.new w 45 #[.int .i64 1, .int .i64 days, .string mile, .slice A n c])
  have hG := Gr.alloc w (.cells #[.int .i64 1, .int .i64 days, .string mile, .slice A n c] 45)
  have k1 : ∀ d os, Calls Tryz.prog 31 #[.int .i64 days] (grow (redrawn (w.alloc (.cells #[.int .i64 1, .int .i64 days, .string mile, .slice A n c] 45)) d) os) fun e w'' => e = .returned (.string T) ∧ ∃ p : Regrown, w'' = grow (redrawn (w.alloc (.cells #[.int .i64 1, .int .i64 days, .string mile, .slice A n c] 45)) p.d) p.os := fun d os => Calls.regrown_of (cT _)
  have p1 := cell_regrown b1
  have p2 := cell_regrown b2
  clear hsz hts cT
  go_enter Tryz.func19, Tryz.ntmps19
  go_wp2
  refine wp_region_quiet_below (by kernel_rfl) (by kernel_rfl) ?_
  repeat (quiet_step (with_reducible exact k1 _ _))
  refine wpQuiet_nil ?_
  intro _ hw'
  obtain ⟨⟨dq, osq⟩, hw''⟩ := hw'
  subst hw''
  go_wp2
  go_ret
  exact ⟨by rw [← HT.out]; rfl, Gr.trans hG (below_regrown _ dq osq)⟩
end Go.Proofs.YtogpmihepfnoaaaGreatDoor
