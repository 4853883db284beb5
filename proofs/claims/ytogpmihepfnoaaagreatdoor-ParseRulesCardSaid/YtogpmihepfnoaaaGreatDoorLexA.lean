/- A schedule's words: all of a text. -/
import Derived.Test.YtogpmihepfnoaaaGreatDoorLexQ
import Derived.Test.YtogpmihepfnoaaaGreatDoorLexT
import Derived.ScopeJumps
import Derived.WalkMore
namespace Go.Proofs.YtogpmihepfnoaaaGreatDoor
open Go Go.RowKit

/-- A scope in which the run jumps back to one label: each pass from the label is walked once. -/
theorem wp_scope_shared {P : Program} {a : Act} {w : World} {Q : Exit → Act → World → Prop} {c rest : Code} (l : Nat) (J : Act → World → Prop) (μ : Act → World → Nat) (hf : findLabel c l = some (Code.skip.seq rest))
    (pass : ∀ a w, J a w → rest.wp P (Exit.jump l (fun a' w' => J a' w' ∧ μ a' w' < μ a w) Q) a w)
    (first : (∀ a w, J a w → rest.wp P (Exit.jump l J Q) a w) → c.wp P (Exit.jump l J Q) a w) : (Code.scope c).wp P Q a w := by
  refine wp_scope_jumps l J μ hf (first fun a w h => Code.wp_mono ?_ (pass a w h)) fun a w h => wp_seq (wp_skip (pass a w h))
  intro e a' w' h
  cases e <;> first | exact h | exact ⟨h.1, h.2.1⟩
/-- Tokens, and what comes behind. -/
def comb (ts : List Tk) (x : List Tk × Nat × Int) : List Tk × Nat × Int := if x.2.2 = 0 then (ts ++ x.1, x.2.1, 0) else ([], x.2.1, x.2.2)
theorem comb_nil (ts : List Tk) (i : Nat) : comb ts (lexR [] i) = (ts, i, 0) := by rw [lexR_nil, comb, if_pos rfl, List.append_nil]
theorem comb_tok {ts : List Tk} {c : UInt8} {r : List UInt8} {i : Nat} (h : blankB c = false) (h2 : c.toNat ≠ 35) (h0 : (lexOne (c :: r)).2.2 = 0) :
    comb ts (lexR (c :: r) i) = comb (ts ++ [{ (lexOne (c :: r)).1 with at_ := i }]) (lexR (r.drop ((lexOne (c :: r)).2.1 - 1)) (i + (lexOne (c :: r)).2.1)) := by
  rw [lexR_tok h h2, if_pos h0]
  generalize lexR (r.drop ((lexOne (c :: r)).2.1 - 1)) (i + (lexOne (c :: r)).2.1) = X
  unfold comb
  by_cases hx : X.2.2 = 0
  · rw [if_pos hx, if_pos hx, if_pos rfl, List.append_assoc]; rfl
  · rw [if_neg hx, if_neg hx, if_neg hx]
theorem comb_err {ts : List Tk} {c : UInt8} {r : List UInt8} {i : Nat} (h : blankB c = false) (h2 : c.toNat ≠ 35) (h0 : (lexOne (c :: r)).2.2 ≠ 0) : comb ts (lexR (c :: r) i) = ([], i, (lexOne (c :: r)).2.2) := by
  rw [lexR_tok h h2, if_neg h0, comb, if_neg h0]
theorem comb_self (x : List Tk × Nat × Int) (h : x.2.2 = 0 ∨ x.1 = []) : comb [] x = x := by
  unfold comb
  split
  · rename_i h0; rw [List.nil_append]; cases x; rename_i b; cases b; simp_all
  · rename_i h0; cases x; rename_i b; cases b; simp_all
theorem lexR_err_n : ∀ (n : Nat) (l : List UInt8) (i : Nat), l.length ≤ n → (lexR l i).2.2 = 0 ∨ (lexR l i).1 = []
  | _, [], i, _ => by rw [lexR_nil]; exact .inl rfl
  | 0, _ :: _, _, h => by simp at h
  | n + 1, c :: r, i, h => by
    rw [List.length_cons] at h
    cases hb : blankB c with
    | true => rw [lexR_blank hb]; exact lexR_err_n n r _ (by omega)
    | false =>
      by_cases h2 : c.toNat = 35
      · rw [lexR_remark hb h2]
        exact lexR_err_n n _ _ (by have := dropWhile_le nlB r; omega)
      · rw [lexR_tok hb h2]
        split
        · split
          · exact .inl rfl
          · exact .inr rfl
        · exact .inr rfl
theorem lexR_err (l : List UInt8) (i : Nat) : (lexR l i).2.2 = 0 ∨ (lexR l i).1 = [] := lexR_err_n l.length l i (Nat.le_refl _)
theorem drop_run (p : UInt8 → Bool) : ∀ l : List UInt8, l.drop (runL p l) = l.dropWhile p
  | [] => rfl
  | c :: r => by
    rw [List.dropWhile_cons]
    cases h : p c with
    | true => rw [runL_cons_yes h, if_pos rfl, List.drop_succ_cons, drop_run p r]
    | false => rw [runL_cons_no h, if_neg (by simp)]; rfl
set_option maxRecDepth 100000 in
set_option maxHeartbeats 4000000 in
theorem lexall_any (s : ByteArray) (w : World) (hP : Pow w) (hE : Errs w) (hs : s.size ≤ 600) : Calls Tryz.prog 21 #[.string s] w fun e w' =>
    ∃ v, e = .returned (.tuple #[v, .int .i64 (lexR s.data.toList 0).2.1, .int .i64 (lexR s.data.toList 0).2.2]) ∧ RdTks w' w'.heap.size v (lexR s.data.toList 0).1 ∧ Gr w w' := by
  have HP := Lib.hid hP
  have HE := Lib.hid hE
  clear hP hE
  go_enter Tryz.func21, Tryz.ntmps21
  go_wp2
  refine wp_scope_shared 0 (fun a' W => ∃ (k : Nat) (ts : List Tk) (v : Value), (∃ (u7 u8 u9 u10 u11 u12 u13 u14 u15 u16 u17 u18 u19 u20 u21 u22 u23 u24 u25 u26 u27 u28 u29 u30 u31 u32 u33 u34 u35 u36 u37 u38 u39 u40 u41 u42 u43 u44 u45 u46 u47 u48 u49 u50 u51 u52 u53 u54 u55 u56 u57 : Value), a' = { tmps := #[.string s, undef, .slice none 0 0, .int .i64 0, .int .i64 0, v, .int .i64 (k : Int), u7, u8, u9, u10, u11, u12, u13, u14, u15, u16, u17, u18, u19, u20, u21, u22, u23, u24, u25, u26, u27, u28, u29, u30, u31, u32, u33, u34, u35, u36, u37, u38, u39, u40, u41, u42, u43, u44, u45, u46, u47, u48, u49, u50, u51, u52, u53, u54, u55, u56, u57], defers := [] }) ∧ k ≤ s.size ∧ OwnT W w.heap.size v ts ∧ ts.length ≤ k ∧ Gr w W ∧ comb ts (lexR (s.data.toList.drop k) k) = lexR s.data.toList 0) (fun a' _ => s.size - (intOf (a'.tmps.getD 6 undef)).toNat) rfl ?_ ?_
  · rintro a' W ⟨k, ts, v, ⟨u7, u8, u9, u10, u11, u12, u13, u14, u15, u16, u17, u18, u19, u20, u21, u22, u23, u24, u25, u26, u27, u28, u29, u30, u31, u32, u33, u34, u35, u36, u37, u38, u39, u40, u41, u42, u43, u44, u45, u46, u47, u48, u49, u50, u51, u52, u53, u54, u55, u56, u57, rfl⟩, hk, ho, htk, hg, hc⟩
    have HC := Lib.hid hc
    clear hc
    by_cases hlt : k < s.size
    · have hdr := drop_at s k hlt
      have hx0 : s.extract k s.size = ba (s[k] :: s.data.toList.drop (k + 1)) := by
        rw [← hdr, ← ba_of (s.extract k s.size)]
        congr 1
        rw [ByteArray.data_extract, Array.toList_extract]
        rw [List.extract_eq_take_drop]
        exact List.take_of_length_le (by rw [List.length_drop, size_list]; exact Nat.le_refl _)
      rw [hdr] at HC
      have hr10 : (s.data.toList.drop (k + 1)).length ≤ 10000 := by rw [List.length_drop, size_list]; omega
      have hrl : (s.data.toList.drop (k + 1)).length = s.size - (k + 1) := by rw [List.length_drop, size_list]
      have hdd : ∀ n, s.data.toList.drop (k + 1 + n) = (s.data.toList.drop (k + 1)).drop n := fun n => by rw [List.drop_drop]
      generalize hdr1 : s.data.toList.drop (k + 1) = r at *
      have HR1 := Lib.hid hdr1
      clear hdr1
      have HDD := Lib.hid hdd
      clear hdd
      have hks : (k : Int) < 600 := by omega
      clear hdr
      generalize hgk : s[k] = c at *
      rcases (by omega : (c.toNat = 32 ∨ c.toNat = 10 ∨ c.toNat = 9) ∨ c.toNat = 35 ∨ (c.toNat ≠ 32 ∧ c.toNat ≠ 10 ∧ c.toNat ≠ 9 ∧ c.toNat ≠ 35)) with hb | hb | hb
      · have hbl : blankB c = true := decide_eq_true hb
        have hc2 := HC.out
        rw [lexR_blank hbl] at hc2
        have HC2 := Lib.hid hc2
        clear hc2 HC hbl hx0
        rcases hb with hb | hb | hb
        · have hi : (c.toNat : Int) = 32 := by omega
          have t32 : ((c.toNat : Int) == 32) = true := by rw [hi]; rfl
          have t10 : ((c.toNat : Int) == 10) = false := by rw [hi]; rfl
          have t9 : ((c.toNat : Int) == 9) = false := by rw [hi]; rfl
          clear hi hb
          go_wp2
          go_step3
          rw [show (k : Int) + 1 = ((k + 1 : Nat) : Int) by omega]
          refine ⟨rfl, ⟨k + 1, ts, v, ⟨_, _, _, _, _, _, _, _, _, _, _, _, _, _, _, _, _, _, _, _, _, _, _, _, _, _, _, _, _, _, _, _, _, _, _, _, _, _, _, _, _, _, _, _, _, _, _, _, _, _, _, rfl⟩, by omega, ho, by omega, hg, by rw [HR1.out]; exact HC2.out⟩, ?_⟩
          simp [intOf]
          omega
        · have hi : (c.toNat : Int) = 10 := by omega
          have t32 : ((c.toNat : Int) == 32) = false := by rw [hi]; rfl
          have t10 : ((c.toNat : Int) == 10) = true := by rw [hi]; rfl
          have t9 : ((c.toNat : Int) == 9) = false := by rw [hi]; rfl
          clear hi hb
          go_wp2
          go_step3
          rw [show (k : Int) + 1 = ((k + 1 : Nat) : Int) by omega]
          refine ⟨rfl, ⟨k + 1, ts, v, ⟨_, _, _, _, _, _, _, _, _, _, _, _, _, _, _, _, _, _, _, _, _, _, _, _, _, _, _, _, _, _, _, _, _, _, _, _, _, _, _, _, _, _, _, _, _, _, _, _, _, _, _, rfl⟩, by omega, ho, by omega, hg, by rw [HR1.out]; exact HC2.out⟩, ?_⟩
          simp [intOf]
          omega
        · have hi : (c.toNat : Int) = 9 := by omega
          have t32 : ((c.toNat : Int) == 32) = false := by rw [hi]; rfl
          have t10 : ((c.toNat : Int) == 10) = false := by rw [hi]; rfl
          have t9 : ((c.toNat : Int) == 9) = true := by rw [hi]; rfl
          clear hi hb
          go_wp2
          go_step3
          rw [show (k : Int) + 1 = ((k + 1 : Nat) : Int) by omega]
          refine ⟨rfl, ⟨k + 1, ts, v, ⟨_, _, _, _, _, _, _, _, _, _, _, _, _, _, _, _, _, _, _, _, _, _, _, _, _, _, _, _, _, _, _, _, _, _, _, _, _, _, _, _, _, _, _, _, _, _, _, _, _, _, _, rfl⟩, by omega, ho, by omega, hg, by rw [HR1.out]; exact HC2.out⟩, ?_⟩
          simp [intOf]
          omega
      · have hbl : blankB c = false := decide_eq_false (by omega)
        have hn : nlB c = true := by
          unfold nlB
          rw [bne_iff_ne]
          intro h
          subst h
          exact absurd hb (by decide)
        have hc2 := HC.out
        rw [lexR_remark hbl hb, ← drop_run] at hc2
        have cR := fun W => run_nl (ba (c :: r)) W (by rw [ba_size, List.length_cons]; omega)
        simp only [ba_list_, runL_cons_yes hn] at cR
        have hle := runL_le nlB r
        generalize runL nlB r = q at *
        have HC2 := Lib.hid hc2
        clear hc2 HC hbl hn
        have t32 : ((c.toNat : Int) == 32) = false := by simp; omega
        have t10 : ((c.toNat : Int) == 10) = false := by simp; omega
        have t9 : ((c.toNat : Int) == 9) = false := by simp; omega
        have t35 : ((c.toNat : Int) == 35) = true := by simp; omega
        clear hb
        go_wp2_with (go_at_call 32; (with_reducible refine (cR _).mono ?_); rintro e w1 ⟨rfl, rfl⟩)
        go_step3
        first
          | rw [show (k : Int) + ((q : Int) + 1) = ((k + 1 + q : Nat) : Int) by omega]
          | rw [show (k : Int) + ((q + 1 : Nat) : Int) = ((k + 1 + q : Nat) : Int) by omega]
        refine ⟨rfl, ⟨k + 1 + q, ts, v, ⟨_, _, _, _, _, _, _, _, _, _, _, _, _, _, _, _, _, _, _, _, _, _, _, _, _, _, _, _, _, _, _, _, _, _, _, _, _, _, _, _, _, _, _, _, _, _, _, _, _, _, _, rfl⟩, by omega, ho, by omega, hg, by rw [HDD.out]; exact HC2.out⟩, ?_⟩
        simp [intOf]
        omega
      · have hbl : blankB c = false := decide_eq_false (by omega)
        have h35 : c.toNat ≠ 35 := hb.2.2.2
        have cO := fun W hg => one_any c r W (HP.out.below hg) (HE.out.gr hg) hr10
        have hlen := @lexOne_len (c :: r)
        by_cases h0 : (lexOne (c :: r)).2.2 = 0
        · have hc2 := HC.out
          rw [comb_tok hbl h35 h0] at hc2
          obtain ⟨hn1, hn2⟩ := hlen h0
          generalize lexOne (c :: r) = X at *
          obtain ⟨⟨xk, xt, xn, xa⟩, n, e⟩ := X
          obtain rfl : e = 0 := h0
          dsimp only at hc2 cO hn1 hn2
          have hnb : (n : Int) ≤ 10001 := by
            rw [List.length_cons] at hn2
            omega
          have HC2 := Lib.hid hc2
          clear hc2 HC hbl h35 hlen
          have t32 : ((c.toNat : Int) == 32) = false := by simp; omega
          have t10 : ((c.toNat : Int) == 10) = false := by simp; omega
          have t9 : ((c.toNat : Int) == 9) = false := by simp; omega
          have t35 : ((c.toNat : Int) == 35) = false := by simp; omega
          clear hb
          go_wp2_with (first
            | (go_at_call 34; (with_reducible refine (cO _ hg).mono ?_); rintro e w1 ⟨rfl, hb1⟩
               have hBK := Blk.new (w1.alloc (.cells #[.int .i64 xk, .string xt, .int .i64 xn, .int .i64 (k : Int)] 73)) 73 #[.int .i64 xk, .string xt, .int .i64 xn, .int .i64 (k : Int)]
               rw [show (w1.alloc (.cells #[.int .i64 xk, .string xt, .int .i64 xn, .int .i64 (k : Int)] 73)).heap.size = w1.heap.size + 1 by simp] at hBK
               have hG3 := Gr.trans (Gr.trans hg hb1) (Gr.trans (Gr.alloc w1 (.cells #[.int .i64 xk, .string xt, .int .i64 xn, .int .i64 (k : Int)] 73)) (Gr.alloc _ (.cells #[.int .i64 xk, .string xt, .int .i64 xn, .int .i64 (k : Int)] 73))))
            | (at_builtin
               go_loud (refine wpList_appendT _ rfl (.tmp 51) (.tmp 53) rfl w.heap.size v ts rfl ?_ ⟨xk, xt, xn, k⟩ _ _ rfl hBK rfl (by omega) hG3.size ?_)
               · exact ho.gr (Gr.trans hb1 (Gr.trans (Gr.alloc _ _) (Gr.alloc _ _)))
               intro v4 w4 ho4 hb4))
          go_step3
          rw [show (k : Int) + (n : Int) = ((k + n : Nat) : Int) by omega]
          refine ⟨rfl, ⟨k + n, _, v4, ⟨_, _, _, _, _, _, _, _, _, _, _, _, _, _, _, _, _, _, _, _, _, _, _, _, _, _, _, _, _, _, _, _, _, _, _, _, _, _, _, _, _, _, _, _, _, _, _, _, _, _, _, rfl⟩, ?_, ho4, ?_, Below.trans hG3 hb4, ?_⟩, ?_⟩
          · rw [List.length_cons] at hn2; omega
          · rw [List.length_append]; simp; omega
          · rw [show k + n = k + 1 + (n - 1) by omega, HDD.out, show k + 1 + (n - 1) = k + n by omega]; exact HC2.out
          · simp [intOf]
            omega
        · have hc2 := HC.out
          rw [comb_err hbl h35 h0] at hc2
          generalize lexOne (c :: r) = X at *
          obtain ⟨⟨xk, xt, xn, xa⟩, n, e⟩ := X
          dsimp only at hc2 cO h0
          have HC2 := Lib.hid hc2
          have e1 : (e == 0) = false := by simp [h0]
          have e2 : (e != 0) = true := by simp [h0]
          have e3 : decide (e = 0) = false := by simp [h0]
          clear hc2 HC hbl h35 hlen h0
          have t32 : ((c.toNat : Int) == 32) = false := by simp; omega
          have t10 : ((c.toNat : Int) == 10) = false := by simp; omega
          have t9 : ((c.toNat : Int) == 9) = false := by simp; omega
          have t35 : ((c.toNat : Int) == 35) = false := by simp; omega
          clear hb
          go_wp2_with (go_at_call 34; (with_reducible refine (cO _ hg).mono ?_); rintro e w1 ⟨rfl, hb1⟩)
          simp only [Exit.jump]
          refine bodyPost_ret (v := .tuple #[.slice none 0 0, .int .i64 (k : Int), .int .i64 e]) (by simp [results, Tryz.results21, go_sem]) rfl ⟨.slice none 0 0, ?_, ?_, ?_⟩
          · rw [← HC2.out]
          · rw [← HC2.out]; exact RdTks.nil _ _
          · exact Gr.trans (Gr.trans hg hb1) (Gr.alloc _ _)
    · obtain rfl : k = s.size := by omega
      go_wp2
      simp only [Exit.jump]
      have hz : s.data.toList.drop s.size = [] := List.drop_eq_nil_of_le (by rw [size_list]; exact Nat.le_refl _)
      have hcc := HC.out
      rw [hz, comb_nil] at hcc
      refine bodyPost_ret (v := .tuple #[v, .int .i64 (s.size : Int), .int .i64 0]) (by simp [results, Tryz.results21, go_sem]) rfl ⟨v, ?_, ?_, hg⟩
      · rw [← hcc]
      · rw [← hcc]; exact ho.rd
  · intro hR
    go_wp2
    go_step3
    simp only [Exit.then]
    rename_i K hK
    exact hK _ _ (hR _ _ ⟨0, [], .slice none 0 0, ⟨_, _, _, _, _, _, _, _, _, _, _, _, _, _, _, _, _, _, _, _, _, _, _, _, _, _, _, _, _, _, _, _, _, _, _, _, _, _, _, _, _, _, _, _, _, _, _, _, _, _, _, rfl⟩, Nat.zero_le _, OwnT.nil _ _, Nat.le_refl _, Gr.refl _, by rw [List.drop_zero]; exact comb_self _ (lexR_err _ _)⟩)
end Go.Proofs.YtogpmihepfnoaaaGreatDoor
