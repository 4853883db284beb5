/- The reference's tokens of a text; are tokens the same? -/
import Derived.Test.YtogpmihepfnoaaaGreatDoorLexM
import Derived.Test.YtogpmihepfnoaaaGreatDoorLexB
import Derived.Test.YtogpmihepfnoaaaGreatDoorLexT
namespace Go.Proofs.YtogpmihepfnoaaaGreatDoor
open Go Go.RowKit

set_option maxRecDepth 100000 in
set_option maxHeartbeats 4000000 in
theorem rall_any (s : ByteArray) (w : World) (hs : s.size ≤ 600) : Calls Tryz.prog 26 #[.string s] w fun e w' =>
    ∃ v, e = .returned (.tuple #[v, .int .i64 (lexR s.data.toList 0).2.1, .int .i64 (lexR s.data.toList 0).2.2]) ∧ RdTks w' w'.heap.size v (lexR s.data.toList 0).1 ∧ Gr w w' := by
  have cK := fun i (hi : i ≤ s.size) W => skip_any s i W (by omega) hi
  have cK0 : ∀ W, Calls Tryz.prog 42 #[.string s, .int .i64 0] W fun e w' => e = .returned (.int .i64 ((0 + skipL (s.data.toList.drop 0) : Nat) : Int)) ∧ W = w' := fun W => cK 0 (Nat.zero_le _) W
  have hsk0 : 0 + skipL (s.data.toList.drop 0) ≤ s.size := by
    have := skipL_le (s.data.toList.drop 0)
    rw [List.length_drop, size_list] at this
    omega
  have hst : ∀ c r, s.data.toList.drop (0 + skipL (s.data.toList.drop 0)) = c :: r → blankB c = false ∧ c.toNat ≠ 35 := by
    intro c r h
    exact skip_head s.data.toList (by rw [← h, Nat.zero_add, List.drop_zero])
  have hs0 : comb [] (lexR (s.data.toList.drop (0 + skipL (s.data.toList.drop 0))) (0 + skipL (s.data.toList.drop 0))) = lexR s.data.toList 0 := by
    rw [comb_self _ (lexR_err _ _), List.drop_zero, lexR_skip s.data.toList 0, Nat.zero_add]
  have HST := Lib.hid hst
  have HS0 := Lib.hid hs0
  generalize 0 + skipL (s.data.toList.drop 0) = k0 at *
  clear hst hs0
  go_enter Tryz.func26, Tryz.ntmps26
  go_wp2_with (go_at_call 42; (with_reducible refine (cK0 _).mono ?_); rintro e w1 ⟨rfl, rfl⟩)
  go_loopw [5, 6] (fun v5 v6 wr => ∃ (k : Nat) (ts : List Tk), v6 = .int .i64 (k : Int) ∧ k ≤ s.size ∧ (∀ c r, s.data.toList.drop k = c :: r → blankB c = false ∧ c.toNat ≠ 35) ∧ OwnU wr w.heap.size v5 ts ∧ ts.length ≤ k ∧ Gr w wr ∧ comb ts (lexR (s.data.toList.drop k) k) = lexR s.data.toList 0) (fun _ v6 _ => s.size - (intOf v6).toNat)
  case atStart => exact ⟨k0, [], rfl, hsk0, HST.out, OwnU.nil _ _, Nat.zero_le _, Gr.refl _, HS0.out⟩
  case round =>
    obtain ⟨k, ts, rfl, hk, hhd, ho, htl, hg, hcm⟩ := hrel
    by_cases hlt : k < s.size
    · have hdk := drop_at s k hlt
      obtain ⟨hbl, h35⟩ := hhd _ _ hdk
      have cO := fun W => rone_any s k _ _ W (by omega) hdk
      have HDD := Lib.hid (fun n => (by rw [List.drop_drop] : (s.data.toList.drop (k + 1)).drop n = s.data.toList.drop (k + 1 + n)))
      rw [hdk] at hcm
      have hrl : (s.data.toList.drop (k + 1)).length = s.size - (k + 1) := by rw [List.length_drop, size_list]
      generalize s.data.toList.drop (k + 1) = r at *
      generalize s[k] = c at *
      have hlen := @lexOne_len (c :: r)
      clear hdk hhd
      by_cases h0 : (lexOne (c :: r)).2.2 = 0
      · rw [comb_tok hbl h35 h0] at hcm
        obtain ⟨hn1, hn2⟩ := hlen h0
        rw [List.length_cons] at hn2
        unfold roneV at cO
        rw [if_pos h0] at cO
        generalize lexOne (c :: r) = X at *
        obtain ⟨⟨xk, xt, xn, xa⟩, n, e⟩ := X
        dsimp only at hcm cO hn1 hn2
        have hkn : k + n ≤ s.size := by omega
        have cK1 : ∀ W, Calls Tryz.prog 42 #[.string s, .int .i64 ((k : Int) + (n : Int))] W fun e w' => e = .returned (.int .i64 ((k + n + skipL (s.data.toList.drop (k + n)) : Nat) : Int)) ∧ W = w' := by
          intro W
          have h1 := cK (k + n) hkn W
          rwa [Int.natCast_add k n] at h1
        have hsk := skipL_le (s.data.toList.drop (k + n))
        rw [List.length_drop, size_list] at hsk
        have hst1 : ∀ c r, s.data.toList.drop (k + n + skipL (s.data.toList.drop (k + n))) = c :: r → blankB c = false ∧ c.toNat ≠ 35 := by
          intro c r h
          exact skip_head (s.data.toList.drop (k + n)) (by rw [← h, List.drop_drop])
        rw [HDD.out, show k + 1 + (n - 1) = k + n by omega, lexR_skip, List.drop_drop] at hcm
        generalize skipL (s.data.toList.drop (k + n)) = q at *
        have HCM := Lib.hid hcm
        have HST1 := Lib.hid hst1
        clear hcm hst1 cK hlen h0 hbl h35
        go_wp2_with (first
          | (go_at_call 43; (with_reducible refine (cO _).mono ?_); rintro e w1 ⟨rfl, hb1⟩
             have hBK := Blk.new (w1.alloc (.cells (tkC xk xt xn k) 82)) 82 (tkC xk xt xn k)
             rw [show (w1.alloc (.cells (tkC xk xt xn k) 82)).heap.size = w1.heap.size + 1 by simp] at hBK
             have hG3 := Gr.trans (Gr.trans hg hb1) (Gr.trans (Gr.alloc w1 (.cells (tkC xk xt xn k) 82)) (Gr.alloc _ (.cells (tkC xk xt xn k) 82))))
          | (go_at_call 42; (with_reducible refine (cK1 _).mono ?_); rintro e w5 ⟨rfl, rfl⟩)
          | (at_builtin
             go_loud (refine wpList_appendU _ rfl (.tmp 33) (.tmp 35) rfl w.heap.size _ ts rfl ?_ ⟨xk, xt, xn, k⟩ _ _ rfl hBK rfl (by omega) hG3.size ?_)
             · exact ho.gr (Gr.trans hb1 (Gr.trans (Gr.alloc _ _) (Gr.alloc _ _)))
             intro v4 w4 ho4 hb4))
        go_roundw
        case rel => exact ⟨k + n + q, _, rfl, by omega, HST1.out, ho4, by rw [List.length_append, List.length_singleton]; omega, Below.trans hG3 hb4, HCM.out⟩
        case measure => simp [intOf]; omega
      · rw [comb_err hbl h35 h0] at hcm
        unfold roneV at cO
        rw [if_neg h0] at cO
        generalize lexOne (c :: r) = X at *
        obtain ⟨⟨xk, xt, xn, xa⟩, n, e⟩ := X
        dsimp only at hcm cO h0
        have HCM := Lib.hid hcm
        have e1 : (e == 0) = false := by simp [h0]
        have e2 : (e != 0) = true := by simp [h0]
        have e3 : decide (e = 0) = false := by simp [h0]
        clear hcm hlen h0 hbl h35
        go_wp2_with (go_at_call 43; (with_reducible refine (cO _).mono ?_); rintro e w1 ⟨rfl, hb1⟩)
        refine bodyPost_ret (v := .tuple #[.slice none 0 0, .int .i64 (k : Int), .int .i64 e]) (by simp [results, Tryz.results26, go_sem]) rfl ⟨.slice none 0 0, ?_, ?_, Gr.trans (Gr.trans hg hb1) (Gr.alloc _ _)⟩
        · rw [← HCM.out]
        · rw [← HCM.out]; exact RdTks.nil _ _
    · obtain rfl : k = s.size := by omega
      have hz : s.data.toList.drop s.size = [] := List.drop_eq_nil_of_le (by rw [size_list]; exact Nat.le_refl _)
      rw [hz, comb_nil] at hcm
      have HCM := Lib.hid hcm
      clear hcm hz hhd
      go_wp2
      refine bodyPost_ret (v := .tuple #[u5, .int .i64 (s.size : Int), .int .i64 0]) (by simp [results, Tryz.results26, go_sem]) rfl ⟨u5, ?_, ?_, hg⟩
      · rw [← HCM.out]
      · rw [← HCM.out]; exact ho.rd
theorem rall_big (s : ByteArray) (w : World) (hs : 600 < s.size) (hm : s.size ≤ maxLen) : Calls Tryz.prog 26 #[.string s] w fun e w' => e = .returned (.tuple #[.slice none 0 0, .int .i64 0, .int .i64 3]) ∧ w = w' := by
  unfold maxLen at hm
  go_enter Tryz.func26, Tryz.ntmps26
  go_wp2
  exact bodyPost_ret (v := .tuple #[.slice none 0 0, .int .i64 0, .int .i64 3]) (by simp [results, Tryz.results26, go_sem]) rfl ⟨rfl, rfl⟩
theorem all_big (s : ByteArray) (w : World) (hs : 600 < s.size) (hm : s.size ≤ maxLen) : Calls Tryz.prog 21 #[.string s] w fun e w' => e = .returned (.tuple #[.slice none 0 0, .int .i64 0, .int .i64 3]) ∧ w = w' := by
  unfold maxLen at hm
  go_enter Tryz.func21, Tryz.ntmps21
  go_wp2
  refine wp_scope_shared 0 (fun _ _ => False) (fun _ _ => 0) rfl (fun _ _ h => h.elim) ?_
  intro _
  go_wp2
  simp only [Exit.jump]
  exact bodyPost_ret (v := .tuple #[.slice none 0 0, .int .i64 0, .int .i64 3]) (by simp [results, Tryz.results21, go_sem]) rfl ⟨rfl, rfl⟩
theorem lexAll_big {s : ByteArray} (h : 600 < s.size) : lexAll s.data.toList = ([], 0, 3) := by rw [lexAll, if_pos (by rw [size_list]; exact h)]
theorem lexAll_small {s : ByteArray} (h : s.size ≤ 600) : lexAll s.data.toList = lexR s.data.toList 0 := by rw [lexAll, if_neg (by rw [size_list]; omega)]
/-- A text's tokens, the program's. -/
theorem all_any (s : ByteArray) (w : World) (hP : Pow w) (hE : Errs w) (hm : s.size ≤ maxLen) : Calls Tryz.prog 21 #[.string s] w fun e w' =>
    ∃ v, e = .returned (.tuple #[v, .int .i64 (lexAll s.data.toList).2.1, .int .i64 (lexAll s.data.toList).2.2]) ∧ RdTks w' w'.heap.size v (lexAll s.data.toList).1 ∧ Gr w w' := by
  rcases Nat.lt_or_ge 600 s.size with h | h
  · rw [lexAll_big h]
    exact (all_big s w h hm).mono fun e w' h => ⟨_, h.1, RdTks.nil _ _, h.2 ▸ Gr.refl _⟩
  · rw [lexAll_small h]
    exact lexall_any s w hP hE h
/-- A text's tokens, the reference's. -/
theorem refall_any (s : ByteArray) (w : World) (hm : s.size ≤ maxLen) : Calls Tryz.prog 26 #[.string s] w fun e w' =>
    ∃ v, e = .returned (.tuple #[v, .int .i64 (lexAll s.data.toList).2.1, .int .i64 (lexAll s.data.toList).2.2]) ∧ RdTks w' w'.heap.size v (lexAll s.data.toList).1 ∧ Gr w w' := by
  rcases Nat.lt_or_ge 600 s.size with h | h
  · rw [lexAll_big h]
    exact (rall_big s w h hm).mono fun e w' h => ⟨_, h.1, RdTks.nil _ _, h.2 ▸ Gr.refl _⟩
  · rw [lexAll_small h]
    exact rall_any s w h
theorem add_fld (ad : Addr) (m j : Nat) (hj : 0 < j) : ad.add (m + j) = ⟨(ad.add m).block, (ad.add m).off + j, none⟩ := by
  rw [← add_of_add]
  generalize ad.add m = P
  unfold Addr.add
  rw [if_neg (by omega)]
/-- A word's cells. -/
theorem RdTks.tok {w : World} {B : Nat} {A : Option Addr} {n c : Nat} {ts : List Tk} (h : RdTks w B (.slice A n c) ts) (k : Nat) (t : Tk) (hk : ts[k]? = some t) :
    ∃ ad P, A = some ad ∧ ad.add (k * 4) = P ∧ P.block < B ∧ w.cell? P = some (.int .i64 t.kind) ∧ w.cell? ⟨P.block, P.off + 1, none⟩ = some (.string t.text) ∧ w.cell? ⟨P.block, P.off + 2, none⟩ = some (.int .i64 t.n) ∧ w.cell? ⟨P.block, P.off + 3, none⟩ = some (.int .i64 t.at_) := by
  obtain ⟨A', c', e, hc, hr⟩ := h
  injection e with e1 e2 e3
  subst e1 e2 e3
  have hk2 : k < ts.length := (List.getElem?_eq_some_iff.1 hk).1
  obtain ⟨ad, ea, hb, hc1⟩ := hr.2 (by omega)
  have hj := fun j u hu => hc1 _ _ (tkCells_at ts k t hk j u hu)
  refine ⟨ad, ad.add (k * 4), ea, rfl, by rw [block_of_add]; exact hb, hj 0 _ rfl, ?_, ?_, ?_⟩
  · rw [← add_fld ad (k * 4) 1 (by omega)]; exact hj 1 _ rfl
  · rw [← add_fld ad (k * 4) 2 (by omega)]; exact hj 2 _ rfl
  · rw [← add_fld ad (k * 4) 3 (by omega)]; exact hj 3 _ rfl
theorem RdTks.grow {w w' : World} {v : Value} {ts : List Tk} (h : RdTks w w.heap.size v ts) (hg : Gr w w') : RdTks w' w'.heap.size v ts := (h.gr (Nat.le_refl _) hg).more hg.size
theorem RdTks.form {w : World} {B : Nat} {v : Value} {ts : List Tk} (h : RdTks w B v ts) : ∃ A c, v = .slice A ts.length c ∧ ts.length ≤ c := by
  obtain ⟨A, c, e, hc, _⟩ := h
  exact ⟨A, c, e, hc⟩
theorem lexR_len_n : ∀ (n : Nat) (l : List UInt8) (i : Nat), l.length ≤ n → (lexR l i).1.length ≤ l.length
  | _, [], i, _ => by rw [lexR_nil]; exact Nat.le_refl _
  | 0, _ :: _, _, h => by simp at h
  | n + 1, c :: r, i, h => by
    rw [List.length_cons] at h ⊢
    cases hb : blankB c with
    | true =>
      rw [lexR_blank hb]
      have := lexR_len_n n r (i + 1) (by omega)
      omega
    | false =>
      by_cases h2 : c.toNat = 35
      · have hd := dropWhile_le nlB r
        rw [lexR_remark hb h2]
        have := lexR_len_n n (r.dropWhile nlB) (i + 1 + runL nlB r) (by omega)
        omega
      · by_cases h3 : (lexOne (c :: r)).2.2 = 0
        · have hn := lexOne_len h3
          rw [List.length_cons] at hn
          have ih := lexR_len_n n (r.drop ((lexOne (c :: r)).2.1 - 1)) (i + (lexOne (c :: r)).2.1) (by rw [List.length_drop]; omega)
          rw [List.length_drop] at ih
          rw [lexR_tok hb h2, if_pos h3]
          split
          · rw [List.length_cons]; omega
          · simp
        · rw [lexR_tok hb h2, if_neg h3]; simp
theorem lexAll_len (l : List UInt8) : (lexAll l).1.length ≤ 600 := by
  unfold lexAll
  split
  · simp
  · rename_i h
    have := lexR_len_n l.length l 0 (Nat.le_refl _)
    omega
theorem lexAll_err (l : List UInt8) : (lexAll l).2.2 = 0 → l.length ≤ 600 ∧ lexAll l = lexR l 0 := by
  unfold lexAll
  split
  · intro h; cases h
  · rename_i h
    exact fun _ => ⟨by omega, rfl⟩
end Go.Proofs.YtogpmihepfnoaaaGreatDoor
