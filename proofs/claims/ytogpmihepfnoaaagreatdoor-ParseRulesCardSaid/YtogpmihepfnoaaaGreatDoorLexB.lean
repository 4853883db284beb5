/- A schedule's words: plain laws of order, and of two texts joined. -/
import Derived.Test.YtogpmihepfnoaaaGreatDoorLexK
namespace Go.Proofs.YtogpmihepfnoaaaGreatDoor
open Go

theorem runL_app {p : UInt8 → Bool} (h10 : p 10 = false) : ∀ (l t : List UInt8), runL p (l ++ 10 :: t) = runL p l
  | [], t => by rw [List.nil_append, runL_cons_no h10]; rfl
  | c :: r, t => by
    rw [List.cons_append]
    cases h : p c with
    | false => rw [runL_cons_no h, runL_cons_no h]
    | true => rw [runL_cons_yes h, runL_cons_yes h, runL_app h10 r t]
theorem runL_app_lt {p : UInt8 → Bool} : ∀ (l m : List UInt8), runL p l < l.length → runL p (l ++ m) = runL p l
  | [], m, h => by simp at h
  | c :: r, m, h => by
    rw [List.cons_append]
    cases hp : p c with
    | false => rw [runL_cons_no hp, runL_cons_no hp]
    | true =>
      rw [runL_cons_yes hp, List.length_cons] at h
      rw [runL_cons_yes hp, runL_cons_yes hp, runL_app_lt r m (by omega)]
theorem take_app (l m : List UInt8) (k : Nat) (h : k ≤ l.length) : (l ++ m).take k = l.take k := by
  rw [List.take_append_of_le_length h]
/-- A token stays as it is where a line feed and more come behind. -/
theorem lexOne_app (c : UInt8) (r t : List UInt8) (h : (lexOne (c :: r)).2.2 = 0) : lexOne (c :: (r ++ 10 :: t)) = lexOne (c :: r) := by
  have hc : c :: (r ++ 10 :: t) = (c :: r) ++ 10 :: t := rfl
  have w10 : wordB 10 = false := by decide
  have d10 : digB 10 = false := by decide
  rcases lex_ways c with h1 | h1 | h1 | h1 | h1 | h1 | ⟨h1, h2, h3, h4, h5, h6⟩
  · rw [lexOne_40 h1, lexOne_40 h1]
  · rw [lexOne_41 h1, lexOne_41 h1]
  · rw [lexOne_59 h1, lexOne_59 h1]
  · rw [lexOne_low h1, lexOne_low h1, hc, runL_app w10, take_app _ _ _ (runL_le _ _)]
  · rw [lexOne_quote h1] at h
    by_cases hq : runL qtB r < r.length ∧ nameD (ba (r.take (runL qtB r))) = true
    · rw [lexOne_quote h1, lexOne_quote h1, runL_app_lt r _ hq.1, take_app _ _ _ (by omega), if_pos hq, if_pos ⟨by rw [List.length_append]; omega, hq.2⟩]
    · rw [if_neg hq] at h; cases h
  · rw [lexOne_dig h1] at h
    by_cases hq : runL digB (c :: r) < (c :: r).length ∧ lowB ((c :: r).getD (runL digB (c :: r)) 0) = true
    · have hq2 : runL digB (c :: r) < (c :: (r ++ 10 :: t)).length ∧ lowB ((c :: (r ++ 10 :: t)).getD (runL digB (c :: r)) 0) = true := by
        refine ⟨by rw [hc, List.length_append]; omega, ?_⟩
        rw [hc, List.getD_eq_getElem?_getD, List.getElem?_append_left hq.1, ← List.getD_eq_getElem?_getD]
        exact hq.2
      rw [lexOne_dig h1, lexOne_dig h1, show runL digB (c :: (r ++ 10 :: t)) = runL digB (c :: r) by rw [hc, runL_app d10], if_pos hq, if_pos hq2, hc, take_app _ _ _ (by omega)]
    · rw [if_neg hq] at h; cases h
  · rw [lexOne_other h1 h2 h3 h4 h5 h6] at h; cases h
theorem dropWhile_app {p : UInt8 → Bool} (h10 : p 10 = false) : ∀ (l t : List UInt8), (l ++ 10 :: t).dropWhile p = l.dropWhile p ++ 10 :: t
  | [], t => by rw [List.nil_append, List.dropWhile_cons, h10]; rfl
  | c :: r, t => by
    rw [List.cons_append, List.dropWhile_cons, List.dropWhile_cons]
    cases p c
    · rfl
    · simp only [if_true]; exact dropWhile_app h10 r t
theorem dropWhile_len (p : UInt8 → Bool) (l : List UInt8) : runL p l + (l.dropWhile p).length = l.length := by
  have := runL_le p l
  rw [← drop_run, List.length_drop]
  omega
theorem lexR_tok0 {c : UInt8} {r : List UInt8} {i : Nat} (hb : blankB c = false) (h2 : c.toNat ≠ 35) (h : (lexR (c :: r) i).2.2 = 0) :
    (lexOne (c :: r)).2.2 = 0 ∧ (lexR (r.drop ((lexOne (c :: r)).2.1 - 1)) (i + (lexOne (c :: r)).2.1)).2.2 = 0 ∧
    lexR (c :: r) i = ({ (lexOne (c :: r)).1 with at_ := i } :: (lexR (r.drop ((lexOne (c :: r)).2.1 - 1)) (i + (lexOne (c :: r)).2.1)).1, (lexR (r.drop ((lexOne (c :: r)).2.1 - 1)) (i + (lexOne (c :: r)).2.1)).2.1, 0) := by
  by_cases h0 : (lexOne (c :: r)).2.2 = 0
  · by_cases h1 : (lexR (r.drop ((lexOne (c :: r)).2.1 - 1)) (i + (lexOne (c :: r)).2.1)).2.2 = 0
    · exact ⟨h0, h1, by rw [lexR_tok hb h2, if_pos h0, if_pos h1]⟩
    · rw [lexR_tok hb h2, if_pos h0, if_neg h1] at h; exact absurd h h1
  · rw [lexR_tok hb h2, if_neg h0] at h; exact absurd h h0
theorem lexR_app_n (t : List UInt8) : ∀ (n : Nat) (l : List UInt8) (i : Nat) (ts : List Tk), l.length ≤ n → (lexR l i).2.2 = 0 → comb ts (lexR (l ++ 10 :: t) i) = comb (ts ++ (lexR l i).1) (lexR t (i + l.length + 1))
  | _, [], i, ts, _, _ => by
    rw [List.nil_append, lexR_blank (by decide), lexR_nil, List.append_nil]; rfl
  | 0, _ :: _, _, _, h, _ => by simp at h
  | n + 1, c :: r, i, ts, h, h0 => by
    rw [List.length_cons] at h
    rw [List.cons_append]
    cases hb : blankB c with
    | true =>
      rw [lexR_blank hb] at h0 ⊢
      rw [lexR_blank hb, lexR_app_n t n r _ ts (by omega) h0, List.length_cons, show i + 1 + r.length + 1 = i + (r.length + 1) + 1 by omega]
    | false =>
      by_cases h2 : c.toNat = 35
      · have hd := dropWhile_le nlB r
        have hl := dropWhile_len nlB r
        rw [lexR_remark hb h2] at h0 ⊢
        rw [lexR_remark hb h2, dropWhile_app (by decide), runL_app (by decide), lexR_app_n t n _ _ ts (by omega) h0, List.length_cons, show i + 1 + runL nlB r + (r.dropWhile nlB).length + 1 = i + (r.length + 1) + 1 by omega]
      · obtain ⟨h3, h4, h5⟩ := lexR_tok0 hb h2 h0
        have ho := lexOne_app c r t h3
        have hn := lexOne_len h3
        rw [List.length_cons] at hn
        have hdr : (r ++ 10 :: t).drop ((lexOne (c :: r)).2.1 - 1) = r.drop ((lexOne (c :: r)).2.1 - 1) ++ 10 :: t := by
          rw [List.drop_append_of_le_length (by omega)]
        have e1 := @comb_tok ts c (r ++ 10 :: t) i hb h2 (by rw [ho]; exact h3)
        rw [ho, hdr] at e1
        rw [e1, lexR_app_n t n _ _ _ (by rw [List.length_drop]; omega) h4, h5, List.append_assoc, List.length_drop, List.length_cons]
        congr 2
        omega
theorem lexR_app (l t : List UInt8) (i : Nat) (h : (lexR l i).2.2 = 0) : lexR (l ++ 10 :: t) i = comb (lexR l i).1 (lexR t (i + l.length + 1)) := by
  have := lexR_app_n t l.length l i [] (Nat.le_refl _) h
  rw [comb_self _ (lexR_err _ _), List.nil_append] at this
  exact this
/-- A token farther behind. -/
def Tk.by_ (d : Nat) (t : Tk) : Tk := { t with at_ := t.at_ + d }
theorem lexR_by_n (d : Nat) : ∀ (n : Nat) (l : List UInt8) (i : Nat), l.length ≤ n → (lexR l i).2.2 = 0 → lexR l (i + d) = ((lexR l i).1.map (Tk.by_ d), (lexR l i).2.1 + d, 0)
  | _, [], i, _, _ => by rw [lexR_nil, lexR_nil]; rfl
  | 0, _ :: _, _, h, _ => by simp at h
  | n + 1, c :: r, i, h, h0 => by
    rw [List.length_cons] at h
    cases hb : blankB c with
    | true =>
      rw [lexR_blank hb] at h0 ⊢
      rw [lexR_blank hb, show i + d + 1 = i + 1 + d by omega, lexR_by_n d n r _ (by omega) h0]
    | false =>
      by_cases h2 : c.toNat = 35
      · have hd := dropWhile_le nlB r
        rw [lexR_remark hb h2] at h0 ⊢
        rw [lexR_remark hb h2, show i + d + 1 + runL nlB r = i + 1 + runL nlB r + d by omega, lexR_by_n d n _ _ (by omega) h0]
      · obtain ⟨h3, h4, h5⟩ := lexR_tok0 hb h2 h0
        have ih := lexR_by_n d n _ _ (by rw [List.length_drop]; omega) h4
        rw [h5, lexR_tok hb h2, if_pos h3, show i + d + (lexOne (c :: r)).2.1 = i + (lexOne (c :: r)).2.1 + d by omega, ih, if_pos rfl, List.map_cons]
        rfl
theorem lexR_by (d : Nat) (l : List UInt8) (i : Nat) (h : (lexR l i).2.2 = 0) : lexR l (i + d) = ((lexR l i).1.map (Tk.by_ d), (lexR l i).2.1 + d, 0) := lexR_by_n d l.length l i (Nat.le_refl _) h
theorem lexR_end_n : ∀ (n : Nat) (l : List UInt8) (i : Nat), l.length ≤ n → (lexR l i).2.2 = 0 → (lexR l i).2.1 = i + l.length
  | _, [], i, _, _ => by rw [lexR_nil]; rfl
  | 0, _ :: _, _, h, _ => by simp at h
  | n + 1, c :: r, i, h, h0 => by
    rw [List.length_cons] at h ⊢
    cases hb : blankB c with
    | true =>
      rw [lexR_blank hb] at h0 ⊢
      rw [lexR_end_n n r _ (by omega) h0]; omega
    | false =>
      by_cases h2 : c.toNat = 35
      · have hd := dropWhile_len nlB r
        rw [lexR_remark hb h2] at h0 ⊢
        rw [lexR_end_n n _ _ (by omega) h0]; omega
      · obtain ⟨h3, h4, h5⟩ := lexR_tok0 hb h2 h0
        have hn := lexOne_len h3
        rw [List.length_cons] at hn
        rw [h5]
        dsimp only
        rw [lexR_end_n n _ _ (by rw [List.length_drop]; omega) h4, List.length_drop]; omega
theorem lexR_end (l : List UInt8) (i : Nat) (h : (lexR l i).2.2 = 0) : (lexR l i).2.1 = i + l.length := lexR_end_n l.length l i (Nat.le_refl _) h
/-- Two texts, a line feed between. -/
theorem lex_joins (s t : List UInt8) (hs : (lexR s 0).2.2 = 0) (ht : (lexR t 0).2.2 = 0) : lexR (s ++ 10 :: t) 0 = ((lexR s 0).1 ++ (lexR t 0).1.map (Tk.by_ (s.length + 1)), s.length + t.length + 1, 0) := by
  have h := lexR_app s t 0 hs
  have h2 := lexR_by (s.length + 1) t 0 ht
  have h3 := lexR_end t 0 ht
  rw [h, show 0 + s.length + 1 = 0 + (s.length + 1) by omega, h2, h3, comb, if_pos rfl]
  dsimp only
  rw [show 0 + t.length + (s.length + 1) = s.length + t.length + 1 by omega]
theorem skip_head_n : ∀ (n : Nat) (l : List UInt8), l.length ≤ n → ∀ c r, l.drop (skipL l) = c :: r → blankB c = false ∧ c.toNat ≠ 35
  | _, [], _, c, r, h => by simp at h
  | 0, _ :: _, h, _, _, _ => by simp at h
  | n + 1, c :: r, h, c2, r2, h0 => by
    rw [List.length_cons] at h
    cases hb : blankB c with
    | true =>
      rw [skipL_blank hb, List.drop_succ_cons] at h0
      exact skip_head_n n r (by omega) c2 r2 h0
    | false =>
      by_cases h2 : c.toNat = 35
      · have hd := dropWhile_le nlB r
        rw [skipL_remark hb h2, show 1 + runL nlB r + skipL (r.dropWhile nlB) = (runL nlB r + skipL (r.dropWhile nlB)) + 1 by omega, List.drop_succ_cons, ← List.drop_drop, drop_run] at h0
        exact skip_head_n n _ (by omega) c2 r2 h0
      · rw [skipL_tok hb h2, List.drop_zero] at h0
        cases h0
        exact ⟨hb, h2⟩
theorem skip_head (l : List UInt8) {c : UInt8} {r : List UInt8} (h : l.drop (skipL l) = c :: r) : blankB c = false ∧ c.toNat ≠ 35 := skip_head_n l.length l (Nat.le_refl _) c r h
/-- How many bytes a token has in the text. -/
def Tk.size (t : Tk) : Nat := t.text.size + if t.kind = 2 then 2 else 0
theorem lexOne_size {l : List UInt8} (h : (lexOne l).2.2 = 0) : (lexOne l).2.1 = (lexOne l).1.size := by
  cases l with
  | nil => cases h
  | cons c r =>
    unfold Tk.size
    rcases lex_ways c with h1 | h1 | h1 | h1 | h1 | h1 | ⟨h1, h2, h3, h4, h5, h6⟩
    · rw [lexOne_40 h1]; rfl
    · rw [lexOne_41 h1]; rfl
    · rw [lexOne_59 h1]; rfl
    · rw [lexOne_low h1]
      have := runL_le wordB (c :: r)
      simp only [ba_size, List.length_take]
      rw [if_neg (by decide)]
      omega
    · rw [lexOne_quote h1] at h ⊢
      by_cases hq : runL qtB r < r.length ∧ nameD (ba (r.take (runL qtB r))) = true
      · rw [if_pos hq]
        simp only [ba_size, List.length_take, if_true]
        omega
      · rw [if_neg hq] at h; cases h
    · rw [lexOne_dig h1] at h ⊢
      by_cases hq : runL digB (c :: r) < (c :: r).length ∧ lowB ((c :: r).getD (runL digB (c :: r)) 0) = true
      · rw [if_pos hq] at h ⊢
        by_cases hp : (parseD (ba ((c :: r).take (runL digB (c :: r) + 1)))).2 = 0
        · rw [if_pos hp]
          simp only [ba_size, List.length_take]
          rw [if_neg (by decide)]
          omega
        · rw [if_neg hp] at h; exact absurd h hp
      · rw [if_neg hq] at h; cases h
    · rw [lexOne_other h1 h2 h3 h4 h5 h6] at h; cases h
/-- The next token, and what is between. -/
theorem lexR_next (l : List UInt8) (i : Nat) (ts : List Tk) (e : Nat) (h : lexR l i = (ts, e, 0)) :
    (ts = [] ∧ skipL l = l.length) ∨ ∃ t r, ts = t :: r ∧ t.at_ = ((i + skipL l : Nat) : Int) ∧ skipL l < l.length ∧ 1 ≤ t.size ∧ skipL l + t.size ≤ l.length ∧ lexR (l.drop (skipL l + t.size)) (i + skipL l + t.size) = (r, e, 0) := by
  have hle := skipL_le l
  rw [lexR_skip] at h
  cases hd : l.drop (skipL l) with
  | nil =>
    have hl : (l.drop (skipL l)).length = 0 := by rw [hd]; rfl
    rw [List.length_drop] at hl
    rw [hd, lexR_nil] at h
    cases h
    exact .inl ⟨rfl, by omega⟩
  | cons c r =>
    obtain ⟨hb, h2⟩ := skip_head l hd
    rw [hd] at h
    obtain ⟨h3, h4, h5⟩ := lexR_tok0 hb h2 (by rw [h])
    have hs := lexOne_size h3
    have hn := lexOne_len h3
    have hl : (l.drop (skipL l)).length = r.length + 1 := by rw [hd]; rfl
    rw [List.length_drop] at hl
    rw [List.length_cons] at hn
    rw [h5] at h
    simp only [Prod.mk.injEq] at h
    obtain ⟨rfl, h7, -⟩ := h
    refine .inr ⟨_, _, rfl, rfl, by omega, ?_, ?_, ?_⟩
    · show 1 ≤ (lexOne (c :: r)).1.size; omega
    · show skipL l + (lexOne (c :: r)).1.size ≤ _; omega
    · show lexR (l.drop (skipL l + (lexOne (c :: r)).1.size)) (i + skipL l + (lexOne (c :: r)).1.size) = _
      rw [← hs, ← List.drop_drop, hd, show (lexOne (c :: r)).2.1 = ((lexOne (c :: r)).2.1 - 1) + 1 by omega, List.drop_succ_cons, show ((lexOne (c :: r)).2.1 - 1) + 1 = (lexOne (c :: r)).2.1 by omega]
      rw [← h7, ← h4]
/-- The page's example. -/
theorem lex_live : lexAll [99, 108, 97, 115, 115, 32, 34, 104, 114, 34, 32, 107, 101, 101, 112, 32, 50, 121] = ([⟨1, ⟨#[99, 108, 97, 115, 115]⟩, 0, 0⟩, ⟨2, ⟨#[104, 114]⟩, 0, 6⟩, ⟨1, ⟨#[107, 101, 101, 112]⟩, 0, 11⟩, ⟨3, ⟨#[50, 121]⟩, 730, 16⟩], 18, 0) := by
  have e1 : lexOne [99, 108, 97, 115, 115, 32, 34, 104, 114, 34, 32, 107, 101, 101, 112, 32, 50, 121] = (⟨1, ⟨#[99, 108, 97, 115, 115]⟩, 0, 0⟩, 5, 0) := by kernel_rfl
  have e2 : lexOne [34, 104, 114, 34, 32, 107, 101, 101, 112, 32, 50, 121] = (⟨2, ⟨#[104, 114]⟩, 0, 0⟩, 4, 0) := by kernel_rfl
  have e3 : lexOne [107, 101, 101, 112, 32, 50, 121] = (⟨1, ⟨#[107, 101, 101, 112]⟩, 0, 0⟩, 4, 0) := by kernel_rfl
  have e4 : lexOne [50, 121] = (⟨3, ⟨#[50, 121]⟩, 730, 0⟩, 2, 0) := by kernel_rfl
  rw [lexAll, if_neg (by decide), lexR_tok (by decide) (by decide), e1, if_pos rfl]
  show _ = _
  rw [show lexR (List.drop ((5 : Nat) - 1) [108, 97, 115, 115, 32, 34, 104, 114, 34, 32, 107, 101, 101, 112, 32, 50, 121]) (0 + 5) = ([⟨2, ⟨#[104, 114]⟩, 0, 6⟩, ⟨1, ⟨#[107, 101, 101, 112]⟩, 0, 11⟩, ⟨3, ⟨#[50, 121]⟩, 730, 16⟩], 18, 0) from ?_]
  · rfl
  show lexR [32, 34, 104, 114, 34, 32, 107, 101, 101, 112, 32, 50, 121] 5 = _
  rw [lexR_blank (by decide), lexR_tok (by decide) (by decide), e2, if_pos rfl]
  rw [show lexR (List.drop ((4 : Nat) - 1) [104, 114, 34, 32, 107, 101, 101, 112, 32, 50, 121]) (5 + 1 + 4) = ([⟨1, ⟨#[107, 101, 101, 112]⟩, 0, 11⟩, ⟨3, ⟨#[50, 121]⟩, 730, 16⟩], 18, 0) from ?_]
  · rfl
  show lexR [32, 107, 101, 101, 112, 32, 50, 121] 10 = _
  rw [lexR_blank (by decide), lexR_tok (by decide) (by decide), e3, if_pos rfl]
  rw [show lexR (List.drop ((4 : Nat) - 1) [101, 101, 112, 32, 50, 121]) (10 + 1 + 4) = ([⟨3, ⟨#[50, 121]⟩, 730, 16⟩], 18, 0) from ?_]
  · rfl
  show lexR [32, 50, 121] 15 = _
  rw [lexR_blank (by decide), lexR_tok (by decide) (by decide), e4, if_pos rfl]
  rw [show lexR (List.drop ((2 : Nat) - 1) [121]) (15 + 1 + 2) = ([], 18, 0) from ?_]
  · rfl
  show lexR [] 18 = _
  rw [lexR_nil]
end Go.Proofs.YtogpmihepfnoaaaGreatDoor
