/- What is written has these words: plain laws. -/
import Derived.Test.YtogpmihepfnoaaaDoorPaD
import Derived.Test.YtogpmihepfnoaaaDoorLexB
import Derived.Test.YtogpmihepfnoaaaDoorSpanB
import Derived.Test.YtogpmihepfnoaaaDoorRuG
namespace Go.Proofs.YtogpmihepfnoaaaDoor
open Go

/-- A text has these words. -/
def ShOf (l : List UInt8) (ss : List Sh) : Prop := ∀ i, (lexR l i).2.2 = 0 ∧ (lexR l i).1.map Tk.sh = ss
/-- A word ends ahead of this. -/
def Brk (r : List UInt8) : Prop := ∀ c q, r = c :: q → wordB c = false
theorem brk_cons {c : UInt8} {q : List UInt8} (h : wordB c = false) : Brk (c :: q) := fun d p e => by injection e with e1 e2; rw [← e1]; exact h
theorem shOf_nil : ShOf [] [] := fun i => by rw [lexR_nil]; exact ⟨rfl, rfl⟩
theorem shOf_blank {c : UInt8} {r : List UInt8} {ss : List Sh} (h : blankB c = true) (hr : ShOf r ss) : ShOf (c :: r) ss := fun i => by rw [lexR_blank h]; exact hr _
theorem shOf_tok {c : UInt8} {r q : List UInt8} {ss : List Sh} {t : Tk} {n : Nat} (hb : blankB c = false) (h2 : c.toNat ≠ 35) (ho : lexOne (c :: r) = (t, n, 0)) (hq : r.drop (n - 1) = q) (hr : ShOf q ss) : ShOf (c :: r) (t.sh :: ss) := fun i => by
  obtain ⟨h3, h4⟩ := hr (i + n)
  rw [lexR_tok hb h2, ho]
  dsimp only
  rw [if_pos rfl, hq, if_pos h3]
  exact ⟨rfl, by rw [List.map_cons, h4]; rfl⟩
theorem runL_all {p : UInt8 → Bool} : ∀ (w r : List UInt8), (∀ c ∈ w, p c = true) → (∀ c q, r = c :: q → p c = false) → runL p (w ++ r) = w.length
  | [], r, _, h => by
    cases r with
    | nil => rfl
    | cons c q => unfold runL; rw [List.nil_append, List.takeWhile_cons, h c q rfl]; rfl
  | a :: w, r, hw, h => by
    have ih := runL_all w r (fun c hc => hw c (by simp [hc])) h
    unfold runL at *
    rw [List.cons_append, List.takeWhile_cons, hw a (by simp), if_pos rfl, List.length_cons, ih, List.length_cons]
theorem low_not {c : UInt8} (h : lowB c = true) : blankB c = false ∧ c.toNat ≠ 35 := by
  have := lowB_iff.1 h
  refine ⟨?_, by omega⟩
  unfold blankB
  exact decide_eq_false (by omega)
theorem dig_not {c : UInt8} (h : digB c = true) : blankB c = false ∧ c.toNat ≠ 35 := by
  have := digB_iff.1 h
  refine ⟨?_, by omega⟩
  unfold blankB
  exact decide_eq_false (by omega)
/-- A word. -/
theorem shOf_word {w r : List UInt8} {ss : List Sh} (hw : ∀ c ∈ w, wordB c = true) (hh : ∀ c q, w = c :: q → lowB c = true) (hn : w ≠ []) (hb : Brk r) (hr : ShOf r ss) : ShOf (w ++ r) (wSh (ba w) :: ss) := by
  cases w with
  | nil => exact absurd rfl hn
  | cons c q =>
    have hl := hh c q rfl
    obtain ⟨h1, h2⟩ := low_not hl
    have hrun := runL_all (p := wordB) (c :: q) r hw hb
    have ho := lexOne_low (c := c) (r := q ++ r) hl
    rw [List.cons_append] at hrun ⊢
    rw [hrun, show c :: (q ++ r) = (c :: q) ++ r from rfl, List.take_left] at ho
    exact shOf_tok (t := ⟨1, ba (c :: q), 0, 0⟩) h1 h2 ho (by rw [List.length_cons, Nat.add_sub_cancel, List.drop_left]) hr
theorem digits_dig (n : Nat) : ∀ c ∈ Lib.decDigits n, digB c = true := by
  induction n using Nat.strongRecOn with
  | _ n ih =>
    have hd : ∀ k : Nat, k < 10 → digB (UInt8.ofNat (48 + k)) = true := fun k hk => by
      rw [digB_iff]
      have : (UInt8.ofNat (48 + k)).toNat = 48 + k := by rw [UInt8.toNat_ofNat']; exact Nat.mod_eq_of_lt (by omega)
      omega
    intro c hc
    rw [Lib.decDigits] at hc
    split at hc
    · rename_i h
      simp only [List.mem_singleton] at hc
      subst hc
      exact hd n h
    · rename_i h
      rw [List.mem_append, List.mem_singleton] at hc
      rcases hc with hc | rfl
      · exact ih (n / 10) (by omega) c hc
      · exact hd _ (by omega)
theorem unit_low {c : UInt8} (h : 1 ≤ unitD (c.toNat : Int)) : lowB c = true := by
  rw [lowB_iff]
  unfold unitD at h
  split at h
  · omega
  · split at h
    · omega
    · split at h
      · omega
      · split at h
        · omega
        · omega
/-- A span. -/
theorem shOf_span {d : Int} {r : List UInt8} {ss : List Sh} (h0 : 0 ≤ d) (h1 : d ≤ 1048576) (hr : ShOf r ss) : ShOf (textD d ++ r) (⟨3, ba (textD d), d⟩ :: ss) := by
  obtain ⟨k, u, e, hk0, hk1, _, hu⟩ := text_form d h0 h1
  have hp : parseD (ba (textD d)) = (d, 0) := by rw [parse_num]; exact back_1 d h0 h1
  have hit : Lib.itoa k = Lib.decDigits k.toNat := by rw [Lib.itoa, if_neg (by omega)]
  have hne : Lib.decDigits k.toNat ≠ [] := by
    have := Lib.nDigits_pos k.toNat
    rw [← Lib.decDigits_length] at this
    intro hx; rw [hx] at this; simp at this
  have hdd := digits_dig k.toNat
  have hl := unit_low hu
  generalize Lib.decDigits k.toNat = D at *
  rw [hit] at e
  rw [e] at hp ⊢
  cases D with
  | nil => exact absurd rfl hne
  | cons c q =>
    have hc := hdd c (by simp)
    obtain ⟨g1, g2⟩ := dig_not hc
    have hud : digB u = false := digB_no (by have := lowB_iff.1 hl; omega)
    have hrun : runL digB (c :: (q ++ ([u] ++ r))) = q.length + 1 := runL_all (p := digB) (c :: q) ([u] ++ r) hdd (fun x y hx => by injection hx with hx1 hx2; rw [← hx1]; exact hud)
    have ho := lexOne_dig (c := c) (r := q ++ ([u] ++ r)) hc
    have ht : (c :: (q ++ ([u] ++ r))).take (q.length + 1 + 1) = c :: q ++ [u] := by
      rw [show c :: (q ++ ([u] ++ r)) = (c :: q ++ [u]) ++ r by simp, List.take_left' (by simp)]
    have hg : (c :: (q ++ ([u] ++ r))).getD (q.length + 1) 0 = u := by
      rw [List.getD_eq_getElem?_getD, show c :: (q ++ ([u] ++ r)) = (c :: q) ++ (u :: r) by simp, List.getElem?_append_right (by simp)]
      simp
    rw [hrun, hg, ht, hp, if_pos ⟨by simp, hl⟩, if_pos rfl] at ho
    rw [show c :: q ++ [u] ++ r = c :: (q ++ ([u] ++ r)) by simp]
    refine shOf_tok (t := ⟨3, ba (c :: q ++ [u]), d, 0⟩) g1 g2 ho ?_ hr
    rw [Nat.add_sub_cancel, show q ++ ([u] ++ r) = (q ++ [u]) ++ r by simp, List.drop_left' (by simp)]
/-- A name in quotation marks. -/
theorem shOf_quote {c : ByteArray} {r : List UInt8} {ss : List Sh} (h : nameD c = true) (hr : ShOf r ss) : ShOf (34 :: (c.data.toList ++ 34 :: r)) (⟨2, c, 0⟩ :: ss) := by
  have hq : ∀ x ∈ c.data.toList, qtB x = true := by
    have h' := h
    unfold nameD lettersD at h'
    rw [Bool.and_eq_true] at h'
    intro x hx
    have := List.all_eq_true.1 h'.1 x hx
    unfold letD at this
    rw [decide_eq_true_eq] at this
    unfold qtB
    rw [bne_iff_ne]
    rintro rfl
    have e : (34 : UInt8).toNat = 34 := rfl
    omega
  have hrun := runL_all (p := qtB) c.data.toList (34 :: r) hq (fun x y hx => by injection hx with hx1 hx2; rw [← hx1]; rfl)
  have ho := lexOne_quote (c := 34) (r := c.data.toList ++ 34 :: r) rfl
  rw [hrun, List.take_left, show ba c.data.toList = c from rfl, if_pos ⟨by simp, h⟩] at ho
  refine shOf_tok (t := ⟨2, c, 0, 0⟩) rfl (by decide) ho ?_ hr
  rw [show c.data.toList.length + 2 - 1 = (c.data.toList ++ [34]).length by simp, show c.data.toList ++ 34 :: r = (c.data.toList ++ [34]) ++ r by simp, List.drop_left]
theorem shOf_40 {r : List UInt8} {ss : List Sh} (hr : ShOf r ss) : ShOf (40 :: r) (⟨4, ⟨#[40]⟩, 0⟩ :: ss) :=
  shOf_tok (t := ⟨4, ba [40], 0, 0⟩) (n := 1) rfl (by decide) (lexOne_40 rfl) rfl hr
theorem shOf_41 {r : List UInt8} {ss : List Sh} (hr : ShOf r ss) : ShOf (41 :: r) (⟨5, ⟨#[41]⟩, 0⟩ :: ss) :=
  shOf_tok (t := ⟨5, ba [41], 0, 0⟩) (n := 1) rfl (by decide) (lexOne_41 rfl) rfl hr
theorem shOf_59 {r : List UInt8} {ss : List Sh} (hr : ShOf r ss) : ShOf (59 :: r) (⟨6, ⟨#[59]⟩, 0⟩ :: ss) :=
  shOf_tok (t := ⟨6, ba [59], 0, 0⟩) (n := 1) rfl (by decide) (lexOne_59 rfl) rfl hr
/-- A known word. -/
theorem shOf_known (w : List UInt8) {r : List UInt8} {ss : List Sh} (hw : (w.all wordB && lowB (w.getD 0 0)) = true) (hn : w ≠ []) (hb : Brk r) (hr : ShOf r ss) : ShOf (w ++ r) (wSh (ba w) :: ss) := by
  rw [Bool.and_eq_true, List.all_eq_true] at hw
  exact shOf_word hw.1 (fun c q e => by rw [e] at hw; exact hw.2) hn hb hr
theorem mile_parts {m : ByteArray} (h : mileD m = true) : (∀ c ∈ m.data.toList, wordB c = true) ∧ (∀ c q, m.data.toList = c :: q → lowB c = true) ∧ m.data.toList ≠ [] := by
  unfold mileD at h
  simp only [Bool.and_eq_true, decide_eq_true_eq, List.all_eq_true] at h
  obtain ⟨⟨⟨⟨h1, h2⟩, h3⟩, h4⟩, h5⟩ := h
  refine ⟨h5, fun c q e => by rw [e] at h3; exact h3, fun e => ?_⟩
  have : m.data.toList.length = m.size := by rw [Array.length_toList]; rfl
  rw [e] at this
  simp at this
  omega
theorem brk_32 (q : List UInt8) : Brk (32 :: q) := brk_cons (by decide)
theorem brk_41 (q : List UInt8) : Brk (41 :: q) := brk_cons (by decide)
theorem brk_59 (q : List UInt8) : Brk (59 :: q) := brk_cons (by decide)
theorem shOf_sep {op : Int} {r : List UInt8} {ss : List Sh} (hr : ShOf r ss) : ShOf (sepL op ++ r) (wSh (opW op) :: ss) := by
  unfold sepL opW
  split
  · exact shOf_blank (c := 32) (by decide) (shOf_known [97, 110, 100] (by decide) (by simp) (brk_32 r) (shOf_blank (c := 32) (by decide) hr))
  · exact shOf_blank (c := 32) (by decide) (shOf_known [111, 114] (by decide) (by simp) (brk_32 r) (shOf_blank (c := 32) (by decide) hr))
theorem sepL_brk (op : Int) (r : List UInt8) : Brk (sepL op ++ r) := by
  unfold sepL
  split <;> exact brk_32 _
mutual
theorem lx_X : ∀ (x : Ex) (n d m : Nat), mayX x n d = some m → ∀ (r : List UInt8) (ss : List Sh), Brk r → ShOf r ss → ShOf (exprL x ++ r) (shX x ++ ss)
  | .mk op days mile ks, n, d, m, h, r, ss, hb, hr => by
    obtain ⟨_, ⟨rfl, h0, h1, hm, rfl⟩ | ⟨ho, rfl, rfl, hk, hL⟩⟩ := mayX_all h
    · rw [exprL_1, shX, if_pos rfl]
      obtain ⟨m1, m2, m3⟩ := mile_parts hm
      have h2 := shOf_word m1 m2 m3 hb hr
      have h3 := shOf_known [97, 102, 116, 101, 114] (by decide) (by simp) (brk_32 _) (shOf_blank (c := 32) (by decide) h2)
      have h4 := shOf_span h0 h1 (shOf_blank (c := 32) (by decide) h3)
      rw [List.append_assoc, List.append_assoc]
      exact h4
    · rw [exprL_2 (by omega), shX, if_neg (by omega)]
      exact lx_XL op ks _ _ _ hL (by intro e; rw [e] at hk; simp at hk) r ss hb hr
theorem lx_XL : ∀ (op : Int) (ks : List Ex) (n d m : Nat), mayXL ks n d = some m → ks ≠ [] → ∀ (r : List UInt8) (ss : List Sh), Brk r → ShOf r ss → ShOf (Lib.join (partsL op ks) (sepL op) ++ r) (shJoin (wSh (opW op)) (shXL op ks) ++ ss)
  | _, [], _, _, _, _, hn, _, _, _, _ => absurd rfl hn
  | op, k :: ks, n, d, m, h, _, r, ss, hb, hr => by
    rw [mayXL_cons] at h
    cases hk : mayX k n d with
    | none => rw [hk] at h; cases h
    | some m' =>
      rw [hk] at h
      have h1 : ∀ (r : List UInt8) (ss : List Sh), Brk r → ShOf r ss → ShOf ((if wrapB op k then 40 :: (exprL k ++ [41]) else exprL k) ++ r) ((if wrapB op k then ⟨4, ⟨#[40]⟩, 0⟩ :: (shX k ++ [⟨5, ⟨#[41]⟩, 0⟩]) else shX k) ++ ss) := by
        intro r ss hb hr
        split
        · rw [show 40 :: (exprL k ++ [41]) ++ r = 40 :: (exprL k ++ 41 :: r) by simp, show (⟨4, ⟨#[40]⟩, 0⟩ : Sh) :: (shX k ++ [⟨5, ⟨#[41]⟩, 0⟩]) ++ ss = ⟨4, ⟨#[40]⟩, 0⟩ :: (shX k ++ ⟨5, ⟨#[41]⟩, 0⟩ :: ss) by simp]
          exact shOf_40 (lx_X k n d m' hk _ _ (brk_41 r) (shOf_41 hr))
        · exact lx_X k n d m' hk _ _ hb hr
      cases ks with
      | nil =>
        rw [partsL, partsL, shXL, shXL, Lib.join_one, shJoin]
        exact h1 r ss hb hr
      | cons k2 ks =>
        have h2 := lx_XL op (k2 :: ks) m' d m h (by simp) r ss hb hr
        have h3 := h1 _ _ (sepL_brk op _) (shOf_sep (op := op) h2)
        have e1 : Lib.join (partsL op (k :: k2 :: ks)) (sepL op) = (if wrapB op k then 40 :: (exprL k ++ [41]) else exprL k) ++ (sepL op ++ Lib.join (partsL op (k2 :: ks)) (sepL op)) := by
          rw [partsL, partsL]
          simp [Lib.join, List.intercalate]
        have e2 : shJoin (wSh (opW op)) (shXL op (k :: k2 :: ks)) = (if wrapB op k then ⟨4, ⟨#[40]⟩, 0⟩ :: (shX k ++ [⟨5, ⟨#[41]⟩, 0⟩]) else shX k) ++ wSh (opW op) :: shJoin (wSh (opW op)) (shXL op (k2 :: ks)) := by
          rw [shXL, shXL, shJoin]
        rw [e1, e2, List.append_assoc, List.append_assoc, List.append_assoc, List.cons_append]
        exact h3
end
theorem lx_act {n : Int} {r : List UInt8} {ss : List Sh} (hb : Brk r) (hr : ShOf r ss) : ShOf (actL n ++ r) (wSh (actW n) :: ss) := by
  unfold actL actW
  split
  · exact shOf_known [100, 101, 115, 116, 114, 111, 121] (by decide) (by simp) hb hr
  · split
    · exact shOf_known [114, 101, 118, 105, 101, 119] (by decide) (by simp) hb hr
    · exact shOf_known [107, 101, 101, 112] (by decide) (by simp) hb hr
theorem okR_all {r : Ru} (h : okR r = true) : (1 ≤ r.act ∧ r.act ≤ 3) ∧ (r.cls.size = 0 ∨ nameD r.cls = true) ∧ ∃ m, mayX r.wh 24 8 = some m := by
  unfold okR at h
  simp only [Bool.and_eq_true, Bool.or_eq_true, decide_eq_true_eq] at h
  exact ⟨h.1.1, h.1.2, Option.isSome_iff_exists.1 h.2⟩
theorem lx_cls {c : ByteArray} {r : List UInt8} {ss : List Sh} (hc : c.size = 0 ∨ nameD c = true) (hr : ShOf r ss) : ShOf (clsL c ++ 32 :: r) (shC c ++ ss) := by
  unfold clsL shC
  split
  · exact shOf_known [100, 101, 102, 97, 117, 108, 116] (by decide) (by simp) (brk_32 r) (shOf_blank (c := 32) (by decide) hr)
  · rename_i h
    have hn := hc.resolve_left h
    have h1 := shOf_quote hn (shOf_blank (c := 32) (by decide) hr)
    have h2 := shOf_known [99, 108, 97, 115, 115] (by decide) (by simp) (brk_32 _) (shOf_blank (c := 32) (by decide) h1)
    have e : ([99, 108, 97, 115, 115, 32, 34] ++ c.data.toList ++ [34] ++ 32 :: r : List UInt8) = [99, 108, 97, 115, 115] ++ 32 :: 34 :: (c.data.toList ++ 34 :: 32 :: r) := by simp
    rw [e]
    exact h2
theorem lx_rule {x : Ru} {r : List UInt8} {ss : List Sh} (h : okR x = true) (hr : ShOf r ss) : ShOf (ruleL x ++ r) (shR x ++ ss) := by
  obtain ⟨_, hc, m, hm⟩ := okR_all h
  have h1 := lx_act (n := x.act) (brk_59 _) (shOf_59 (shOf_blank (c := 10) (by decide) hr))
  have h2 := shOf_known [116, 104, 101, 110] (by decide) (by simp) (brk_32 _) (shOf_blank (c := 32) (by decide) h1)
  have h3 := lx_X x.wh 24 8 m hm _ _ (brk_32 _) (shOf_blank (c := 32) (by decide) h2)
  have h4 := shOf_known [107, 101, 101, 112] (by decide) (by simp) (brk_32 _) (shOf_blank (c := 32) (by decide) h3)
  have h5 := lx_cls hc h4
  unfold ruleL shR
  have e : clsL x.cls ++ ([32, 107, 101, 101, 112, 32] ++ exprL x.wh ++ [32, 116, 104, 101, 110, 32] ++ actL x.act ++ [59, 10]) ++ r = clsL x.cls ++ 32 :: ([107, 101, 101, 112] ++ 32 :: (exprL x.wh ++ 32 :: ([116, 104, 101, 110] ++ 32 :: (actL x.act ++ 59 :: 10 :: r)))) := by simp
  have e2 : shC x.cls ++ (wSh wKeep :: (shX x.wh ++ [wSh wThen, wSh (actW x.act), ⟨6, ⟨#[59]⟩, 0⟩])) ++ ss = shC x.cls ++ wSh wKeep :: (shX x.wh ++ wSh wThen :: wSh (actW x.act) :: ⟨6, ⟨#[59]⟩, 0⟩ :: ss) := by simp
  rw [e, e2]
  exact h5
theorem lx_print : ∀ (rs : List Ru), (∀ r ∈ rs, okR r = true) → ShOf (printL rs) (rs.flatMap shR)
  | [], _ => shOf_nil
  | x :: rs, h => by
    have ih := lx_print rs fun r hr => h r (by simp [hr])
    exact lx_rule (h x (by simp)) ih
/-! What it costs is no more than its bytes. -/
theorem textD_2 {d : Int} (h0 : 0 ≤ d) (h1 : d ≤ 1048576) : 2 ≤ (textD d).length := (text_size d h0 h1).1
theorem sepL_ge (op : Int) : 4 ≤ (sepL op).length := by unfold sepL; split <;> decide
mutual
theorem fu_X : ∀ (x : Ex) (n d m : Nat), mayX x n d = some m → fuX x + 6 ≤ (exprL x).length
  | .mk op days mile ks, n, d, m, h => by
    obtain ⟨_, ⟨rfl, h0, h1, hm, rfl⟩ | ⟨ho, rfl, rfl, hk, hL⟩⟩ := mayX_all h
    · rw [exprL_1, fuX, if_pos rfl]
      have h2 := textD_2 h0 h1
      have h3 := (mile_parts hm).2.2
      have h4 : 1 ≤ mile.data.toList.length := List.length_pos_iff.2 h3
      rw [List.length_append, List.length_append]
      simp only [List.length_cons, List.length_nil]
      omega
    · rw [exprL_2 (by omega), fuX, if_neg (by omega)]
      have h1 := fu_XL op ks _ _ _ hL
      have hne : partsL op ks ≠ [] := by
        intro e
        have := partsL_len op ks
        rw [e] at this
        simp at this
        omega
      have h2 := join_len (sepL op) (partsL op ks) hne
      rw [partsL_len] at h2
      have h3 := sepL_ge op
      obtain ⟨q, hq⟩ : ∃ q, ks.length = q + 2 := ⟨ks.length - 2, by omega⟩
      have h4 : (q + 1) * 4 ≤ (q + 1) * (sepL op).length := Nat.mul_le_mul_left _ h3
      have h5 : ks.length * (sepL op).length = (q + 1) * (sepL op).length + (sepL op).length := by rw [hq, ← Nat.succ_mul]
      omega
theorem fu_XL : ∀ (op : Int) (ks : List Ex) (n d m : Nat), mayXL ks n d = some m → fuXL op ks + 2 * ks.length ≤ sumL (partsL op ks)
  | op, [], _, _, _, _ => by rw [fuXL, partsL]; simp [sumL]
  | op, k :: ks, n, d, m, h => by
    rw [mayXL_cons] at h
    cases hk : mayX k n d with
    | none => rw [hk] at h; cases h
    | some m' =>
      rw [hk] at h
      have h1 := fu_X k n d m' hk
      have h2 := fu_XL op ks m' d m h
      rw [fuXL, partsL, sumL_cons, List.length_cons]
      by_cases hw : wrapB op k = true
      · rw [if_pos hw, if_pos hw, List.length_cons, List.length_append, List.length_singleton]
        omega
      · rw [if_neg hw, if_neg hw]
        omega
end
theorem fu_R {x : Ru} (h : okR x = true) : fuR x ≤ (ruleL x).length := by
  obtain ⟨_, hc, m, hm⟩ := okR_all h
  have h1 := fu_X x.wh 24 8 m hm
  unfold fuR fuC ruleL clsL
  split
  · simp only [List.length_append, List.length_cons, List.length_nil]
    omega
  · simp only [List.length_append, List.length_cons, List.length_nil]
    omega
theorem fu_print : ∀ (rs : List Ru), (∀ r ∈ rs, okR r = true) → fuRs rs ≤ (printL rs).length
  | [], _ => Int.le_refl 0
  | x :: rs, h => by
    have ih := fu_print rs fun r hr => h r (by simp [hr])
    have h1 := fu_R (h x (by simp))
    have e : printL (x :: rs) = ruleL x ++ printL rs := rfl
    rw [fuRs, e, List.length_append]
    omega
/-- What is written is read as it was. -/
theorem read_print {rs : List Ru} {t : List UInt8} (h : printD rs = (t, 0)) {fuel : Int} (hf : 600 ≤ fuel) :
    (lexAll t).2.2 = 0 ∧ runP (lexAll t).1 fuel = (rs, ⟨(lexAll t).1.length, fuel - fuRs rs, 0⟩) ∧ checkD rs = 0 := by
  unfold printD at h
  by_cases h0 : checkD rs = 0
  · rw [if_neg (by omega)] at h
    by_cases h6 : 600 < (printL rs).length
    · rw [if_pos h6] at h
      injection h with _ h
      cases h
    · rw [if_neg h6] at h
      injection h with h _
      subst h
      obtain ⟨_, hok⟩ := checkD_ok h0
      have hs := lx_print rs hok 0
      have hc := fu_print rs hok
      have e : lexAll (printL rs) = lexR (printL rs) 0 := by rw [lexAll, if_neg h6]
      rw [e]
      exact ⟨hs.1, run_back hok hs.2 (by omega), h0⟩
  · rw [if_pos h0] at h
    injection h with _ h
    exact absurd h h0
/-- No two are written the same. -/
theorem print_one {a b : List Ru} {s t : List UInt8} (ha : printD a = (s, 0)) (hb : printD b = (t, 0)) : decide (ba s = ba t) = ruEq a b := by
  rw [Bool.eq_iff_iff, decide_eq_true_eq]
  constructor
  · intro e
    have e1 : s = t := by
      have := congrArg (fun x : ByteArray => x.data.toList) e
      exact this
    subst e1
    have h1 := (read_print ha (Int.le_refl 600)).2.1
    have h2 := (read_print hb (Int.le_refl 600)).2.1
    rw [h1] at h2
    injection h2 with h3 _
    rw [h3]
    exact ruEq_refl b
  · intro e
    have e1 := ruEq_eq a b e
    subst e1
    rw [ha] at hb
    injection hb with h3 _
    rw [h3]
end Go.Proofs.YtogpmihepfnoaaaDoor
