/- What is written has these words: plain laws. Reading schedules: the program's reader: its small methods. Reading schedules: the program's reader: take, kind, word, ahead. Printed by wip/tools/genpag.py. Conditions and rules that grow: rows of the call's own. Reading schedules: the program's reader: conditions. Printed by wip/tools/genpai.py. Reading schedules: the program's reader: conditions. Reading schedules: the program's reader: rules; parse.Rules, parse.Cost. Reading schedules: parse.read, parse.Rules, parse.Cost. Reading schedules: parse.Rules, parse.Cost; the page's example. -/
import Derived.Test.YtogpmihepfnoaaaGreatDoorPkA
import Derived.Test.YtogpmihepfnoaaaGreatDoorLexB
import Derived.Test.YtogpmihepfnoaaaGreatDoorSpanB
import Derived.Test.YtogpmihepfnoaaaGreatDoorRuG
import Derived.Test.YtogpmihepfnoaaaGreatDoorLexD
import Derived.Test.YtogpmihepfnoaaaGreatDoorRuM
import Derived.StillTailTactics
import Derived.Test.YtogpmihepfnoaaaGreatDoorRuF
import Derived.Test.YtogpmihepfnoaaaGreatDoorRuD
namespace Go.Proofs.YtogpmihepfnoaaaGreatDoor
open Go

/-- A text has these words. -/
def ShOf (l : List UInt8) (ss : List Sh) : Prop := ∀ i, (lexR l i).2.2 = 0 ∧ (lexR l i).1.map Tk.sh = ss
/-- A word ends ahead of this. -/
def Brk (r : List UInt8) : Prop := ∀ c q, r = c :: q → wordB c = false
theorem brk_cons {c : UInt8} {q : List UInt8} (h : wordB c = false) : Brk (c :: q) := fun d p e => by injection e with e1 e2; rw [← e1]; exact h
theorem shOf_nil : ShOf [] [] := fun i => by rw [lexR_nil]; exact ⟨rfl, rfl⟩
theorem shOf_blank {c : UInt8} {r : List UInt8} {ss : List Sh} (h : blankB c = true) (hr : ShOf r ss) : ShOf (c :: r) ss := fun i => by rw [lexR_blank h]; exact hr _
theorem shOf_tok {c : UInt8} {r q : List UInt8} {ss : List Sh} {t : Tk} {n : Nat} (hb : blankB c = false) (h2 : c.toNat ≠ 35) (ho : lexOne (c :: r) = (t, n, 0)) (hq : r.drop (n - 1) = q) (hr : ShOf q ss) : ShOf (c :: r) (t.sh :: ss) := fun i => by
  obtain ⟨h3, h4⟩ := hr (i + n)
  rw [lexR_tok hb h2, ho]
  dsimp only
  rw [if_pos rfl, hq, if_pos h3]
  exact ⟨rfl, by rw [List.map_cons, h4]; rfl⟩
theorem runL_all {p : UInt8 → Bool} : ∀ (w r : List UInt8), (∀ c ∈ w, p c = true) → (∀ c q, r = c :: q → p c = false) → runL p (w ++ r) = w.length
  | [], r, _, h => by
    cases r with
    | nil => rfl
    | cons c q => unfold runL; rw [List.nil_append, List.takeWhile_cons, h c q rfl]; rfl
  | a :: w, r, hw, h => by
    have ih := runL_all w r (fun c hc => hw c (by simp [hc])) h
    unfold runL at *
    rw [List.cons_append, List.takeWhile_cons, hw a (by simp), if_pos rfl, List.length_cons, ih, List.length_cons]
theorem low_not {c : UInt8} (h : lowB c = true) : blankB c = false ∧ c.toNat ≠ 35 := by
  have := lowB_iff.1 h
  refine ⟨?_, by omega⟩
  unfold blankB
  exact decide_eq_false (by omega)
theorem dig_not {c : UInt8} (h : digB c = true) : blankB c = false ∧ c.toNat ≠ 35 := by
  have := digB_iff.1 h
  refine ⟨?_, by omega⟩
  unfold blankB
  exact decide_eq_false (by omega)
/-- A word. -/
theorem shOf_word {w r : List UInt8} {ss : List Sh} (hw : ∀ c ∈ w, wordB c = true) (hh : ∀ c q, w = c :: q → lowB c = true) (hn : w ≠ []) (hb : Brk r) (hr : ShOf r ss) : ShOf (w ++ r) (wSh (ba w) :: ss) := by
  cases w with
  | nil => exact absurd rfl hn
  | cons c q =>
    have hl := hh c q rfl
    obtain ⟨h1, h2⟩ := low_not hl
    have hrun := runL_all (p := wordB) (c :: q) r hw hb
    have ho := lexOne_low (c := c) (r := q ++ r) hl
    rw [List.cons_append] at hrun ⊢
    rw [hrun, show c :: (q ++ r) = (c :: q) ++ r from rfl, List.take_left] at ho
    exact shOf_tok (t := ⟨1, ba (c :: q), 0, 0⟩) h1 h2 ho (by rw [List.length_cons, Nat.add_sub_cancel, List.drop_left]) hr
theorem digits_dig (n : Nat) : ∀ c ∈ Lib.decDigits n, digB c = true := by
  induction n using Nat.strongRecOn with
  | _ n ih =>
    have hd : ∀ k : Nat, k < 10 → digB (UInt8.ofNat (48 + k)) = true := fun k hk => by
      rw [digB_iff]
      have : (UInt8.ofNat (48 + k)).toNat = 48 + k := by rw [UInt8.toNat_ofNat']; exact Nat.mod_eq_of_lt (by omega)
      omega
    intro c hc
    rw [Lib.decDigits] at hc
    split at hc
    · rename_i h
      simp only [List.mem_singleton] at hc
      subst hc
      exact hd n h
    · rename_i h
      rw [List.mem_append, List.mem_singleton] at hc
      rcases hc with hc | rfl
      · exact ih (n / 10) (by omega) c hc
      · exact hd _ (by omega)
theorem unit_low {c : UInt8} (h : 1 ≤ unitD (c.toNat : Int)) : lowB c = true := by
  rw [lowB_iff]
  unfold unitD at h
  split at h
  · omega
  · split at h
    · omega
    · split at h
      · omega
      · split at h
        · omega
        · omega
/-- A span. -/
theorem shOf_span {d : Int} {r : List UInt8} {ss : List Sh} (h0 : 0 ≤ d) (h1 : d ≤ 1048576) (hr : ShOf r ss) : ShOf (textD d ++ r) (⟨3, ba (textD d), d⟩ :: ss) := by
  obtain ⟨k, u, e, hk0, hk1, _, hu⟩ := text_form d h0 h1
  have hp : parseD (ba (textD d)) = (d, 0) := by rw [parse_num]; exact back_1 d h0 h1
  have hit : Lib.itoa k = Lib.decDigits k.toNat := by rw [Lib.itoa, if_neg (by omega)]
  have hne : Lib.decDigits k.toNat ≠ [] := by
    have := Lib.nDigits_pos k.toNat
    rw [← Lib.decDigits_length] at this
    intro hx; rw [hx] at this; simp at this
  have hdd := digits_dig k.toNat
  have hl := unit_low hu
  generalize Lib.decDigits k.toNat = D at *
  rw [hit] at e
  rw [e] at hp ⊢
  cases D with
  | nil => exact absurd rfl hne
  | cons c q =>
    have hc := hdd c (by simp)
    obtain ⟨g1, g2⟩ := dig_not hc
    have hud : digB u = false := digB_no (by have := lowB_iff.1 hl; omega)
    have hrun : runL digB (c :: (q ++ ([u] ++ r))) = q.length + 1 := runL_all (p := digB) (c :: q) ([u] ++ r) hdd (fun x y hx => by injection hx with hx1 hx2; rw [← hx1]; exact hud)
    have ho := lexOne_dig (c := c) (r := q ++ ([u] ++ r)) hc
    have ht : (c :: (q ++ ([u] ++ r))).take (q.length + 1 + 1) = c :: q ++ [u] := by
      rw [show c :: (q ++ ([u] ++ r)) = (c :: q ++ [u]) ++ r by simp, List.take_left' (by simp)]
    have hg : (c :: (q ++ ([u] ++ r))).getD (q.length + 1) 0 = u := by
      rw [List.getD_eq_getElem?_getD, show c :: (q ++ ([u] ++ r)) = (c :: q) ++ (u :: r) by simp, List.getElem?_append_right (by simp)]
      simp
    rw [hrun, hg, ht, hp, if_pos ⟨by simp, hl⟩, if_pos rfl] at ho
    rw [show c :: q ++ [u] ++ r = c :: (q ++ ([u] ++ r)) by simp]
    refine shOf_tok (t := ⟨3, ba (c :: q ++ [u]), d, 0⟩) g1 g2 ho ?_ hr
    rw [Nat.add_sub_cancel, show q ++ ([u] ++ r) = (q ++ [u]) ++ r by simp, List.drop_left' (by simp)]
/-- A name in quotation marks. -/
theorem shOf_quote {c : ByteArray} {r : List UInt8} {ss : List Sh} (h : nameD c = true) (hr : ShOf r ss) : ShOf (34 :: (c.data.toList ++ 34 :: r)) (⟨2, c, 0⟩ :: ss) := by
  have hq : ∀ x ∈ c.data.toList, qtB x = true := by
    have h' := h
    unfold nameD lettersD at h'
    rw [Bool.and_eq_true] at h'
    intro x hx
    have := List.all_eq_true.1 h'.1 x hx
    unfold letD at this
    rw [decide_eq_true_eq] at this
    unfold qtB
    rw [bne_iff_ne]
    rintro rfl
    have e : (34 : UInt8).toNat = 34 := rfl
    omega
  have hrun := runL_all (p := qtB) c.data.toList (34 :: r) hq (fun x y hx => by injection hx with hx1 hx2; rw [← hx1]; rfl)
  have ho := lexOne_quote (c := 34) (r := c.data.toList ++ 34 :: r) rfl
  rw [hrun, List.take_left, show ba c.data.toList = c from rfl, if_pos ⟨by simp, h⟩] at ho
  refine shOf_tok (t := ⟨2, c, 0, 0⟩) rfl (by decide) ho ?_ hr
  rw [show c.data.toList.length + 2 - 1 = (c.data.toList ++ [34]).length by simp, show c.data.toList ++ 34 :: r = (c.data.toList ++ [34]) ++ r by simp, List.drop_left]
theorem shOf_40 {r : List UInt8} {ss : List Sh} (hr : ShOf r ss) : ShOf (40 :: r) (⟨4, ⟨#[40]⟩, 0⟩ :: ss) :=
  shOf_tok (t := ⟨4, ba [40], 0, 0⟩) (n := 1) rfl (by decide) (lexOne_40 rfl) rfl hr
theorem shOf_41 {r : List UInt8} {ss : List Sh} (hr : ShOf r ss) : ShOf (41 :: r) (⟨5, ⟨#[41]⟩, 0⟩ :: ss) :=
  shOf_tok (t := ⟨5, ba [41], 0, 0⟩) (n := 1) rfl (by decide) (lexOne_41 rfl) rfl hr
theorem shOf_59 {r : List UInt8} {ss : List Sh} (hr : ShOf r ss) : ShOf (59 :: r) (⟨6, ⟨#[59]⟩, 0⟩ :: ss) :=
  shOf_tok (t := ⟨6, ba [59], 0, 0⟩) (n := 1) rfl (by decide) (lexOne_59 rfl) rfl hr
/-- A known word. -/
theorem shOf_known (w : List UInt8) {r : List UInt8} {ss : List Sh} (hw : (w.all wordB && lowB (w.getD 0 0)) = true) (hn : w ≠ []) (hb : Brk r) (hr : ShOf r ss) : ShOf (w ++ r) (wSh (ba w) :: ss) := by
  rw [Bool.and_eq_true, List.all_eq_true] at hw
  exact shOf_word hw.1 (fun c q e => by rw [e] at hw; exact hw.2) hn hb hr
theorem mile_parts {m : ByteArray} (h : mileD m = true) : (∀ c ∈ m.data.toList, wordB c = true) ∧ (∀ c q, m.data.toList = c :: q → lowB c = true) ∧ m.data.toList ≠ [] := by
  unfold mileD at h
  simp only [Bool.and_eq_true, decide_eq_true_eq, List.all_eq_true] at h
  obtain ⟨⟨⟨⟨h1, h2⟩, h3⟩, h4⟩, h5⟩ := h
  refine ⟨h5, fun c q e => by rw [e] at h3; exact h3, fun e => ?_⟩
  have : m.data.toList.length = m.size := by rw [Array.length_toList]; rfl
  rw [e] at this
  simp at this
  omega
theorem brk_32 (q : List UInt8) : Brk (32 :: q) := brk_cons (by decide)
theorem brk_41 (q : List UInt8) : Brk (41 :: q) := brk_cons (by decide)
theorem brk_59 (q : List UInt8) : Brk (59 :: q) := brk_cons (by decide)
theorem shOf_sep {op : Int} {r : List UInt8} {ss : List Sh} (hr : ShOf r ss) : ShOf (sepL op ++ r) (wSh (opW op) :: ss) := by
  unfold sepL opW
  split
  · exact shOf_blank (c := 32) (by decide) (shOf_known [97, 110, 100] (by decide) (by simp) (brk_32 r) (shOf_blank (c := 32) (by decide) hr))
  · exact shOf_blank (c := 32) (by decide) (shOf_known [111, 114] (by decide) (by simp) (brk_32 r) (shOf_blank (c := 32) (by decide) hr))
theorem sepL_brk (op : Int) (r : List UInt8) : Brk (sepL op ++ r) := by
  unfold sepL
  split <;> exact brk_32 _
mutual
theorem lx_X : ∀ (x : Ex) (n d m : Nat), mayX x n d = some m → ∀ (r : List UInt8) (ss : List Sh), Brk r → ShOf r ss → ShOf (exprL x ++ r) (shX x ++ ss)
  | .mk op days mile ks, n, d, m, h, r, ss, hb, hr => by
    obtain ⟨_, ⟨rfl, h0, h1, hm, rfl⟩ | ⟨ho, rfl, rfl, hk, hL⟩⟩ := mayX_all h
    · rw [exprL_1, shX, if_pos rfl]
      obtain ⟨m1, m2, m3⟩ := mile_parts hm
      have h2 := shOf_word m1 m2 m3 hb hr
      have h3 := shOf_known [97, 102, 116, 101, 114] (by decide) (by simp) (brk_32 _) (shOf_blank (c := 32) (by decide) h2)
      have h4 := shOf_span h0 h1 (shOf_blank (c := 32) (by decide) h3)
      rw [List.append_assoc, List.append_assoc]
      exact h4
    · rw [exprL_2 (by omega), shX, if_neg (by omega)]
      exact lx_XL op ks _ _ _ hL (by intro e; rw [e] at hk; simp at hk) r ss hb hr
theorem lx_XL : ∀ (op : Int) (ks : List Ex) (n d m : Nat), mayXL ks n d = some m → ks ≠ [] → ∀ (r : List UInt8) (ss : List Sh), Brk r → ShOf r ss → ShOf (Lib.join (partsL op ks) (sepL op) ++ r) (shJoin (wSh (opW op)) (shXL op ks) ++ ss)
  | _, [], _, _, _, _, hn, _, _, _, _ => absurd rfl hn
  | op, k :: ks, n, d, m, h, _, r, ss, hb, hr => by
    rw [mayXL_cons] at h
    cases hk : mayX k n d with
    | none => rw [hk] at h; cases h
    | some m' =>
      rw [hk] at h
      have h1 : ∀ (r : List UInt8) (ss : List Sh), Brk r → ShOf r ss → ShOf ((if wrapB op k then 40 :: (exprL k ++ [41]) else exprL k) ++ r) ((if wrapB op k then ⟨4, ⟨#[40]⟩, 0⟩ :: (shX k ++ [⟨5, ⟨#[41]⟩, 0⟩]) else shX k) ++ ss) := by
        intro r ss hb hr
        split
        · rw [show 40 :: (exprL k ++ [41]) ++ r = 40 :: (exprL k ++ 41 :: r) by simp, show (⟨4, ⟨#[40]⟩, 0⟩ : Sh) :: (shX k ++ [⟨5, ⟨#[41]⟩, 0⟩]) ++ ss = ⟨4, ⟨#[40]⟩, 0⟩ :: (shX k ++ ⟨5, ⟨#[41]⟩, 0⟩ :: ss) by simp]
          exact shOf_40 (lx_X k n d m' hk _ _ (brk_41 r) (shOf_41 hr))
        · exact lx_X k n d m' hk _ _ hb hr
      cases ks with
      | nil =>
        rw [partsL, partsL, shXL, shXL, Lib.join_one, shJoin]
        exact h1 r ss hb hr
      | cons k2 ks =>
        have h2 := lx_XL op (k2 :: ks) m' d m h (by simp) r ss hb hr
        have h3 := h1 _ _ (sepL_brk op _) (shOf_sep (op := op) h2)
        have e1 : Lib.join (partsL op (k :: k2 :: ks)) (sepL op) = (if wrapB op k then 40 :: (exprL k ++ [41]) else exprL k) ++ (sepL op ++ Lib.join (partsL op (k2 :: ks)) (sepL op)) := by
          rw [partsL, partsL]
          simp [Lib.join, List.intercalate]
        have e2 : shJoin (wSh (opW op)) (shXL op (k :: k2 :: ks)) = (if wrapB op k then ⟨4, ⟨#[40]⟩, 0⟩ :: (shX k ++ [⟨5, ⟨#[41]⟩, 0⟩]) else shX k) ++ wSh (opW op) :: shJoin (wSh (opW op)) (shXL op (k2 :: ks)) := by
          rw [shXL, shXL, shJoin]
        rw [e1, e2, List.append_assoc, List.append_assoc, List.append_assoc, List.cons_append]
        exact h3
end
theorem lx_act {n : Int} {r : List UInt8} {ss : List Sh} (hb : Brk r) (hr : ShOf r ss) : ShOf (actL n ++ r) (wSh (actW n) :: ss) := by
  unfold actL actW
  split
  · exact shOf_known [100, 101, 115, 116, 114, 111, 121] (by decide) (by simp) hb hr
  · split
    · exact shOf_known [114, 101, 118, 105, 101, 119] (by decide) (by simp) hb hr
    · exact shOf_known [107, 101, 101, 112] (by decide) (by simp) hb hr
theorem okR_all {r : Ru} (h : okR r = true) : (1 ≤ r.act ∧ r.act ≤ 3) ∧ (r.cls.size = 0 ∨ nameD r.cls = true) ∧ ∃ m, mayX r.wh 24 8 = some m := by
  unfold okR at h
  simp only [Bool.and_eq_true, Bool.or_eq_true, decide_eq_true_eq] at h
  exact ⟨h.1.1, h.1.2, Option.isSome_iff_exists.1 h.2⟩
theorem lx_cls {c : ByteArray} {r : List UInt8} {ss : List Sh} (hc : c.size = 0 ∨ nameD c = true) (hr : ShOf r ss) : ShOf (clsL c ++ 32 :: r) (shC c ++ ss) := by
  unfold clsL shC
  split
  · exact shOf_known [100, 101, 102, 97, 117, 108, 116] (by decide) (by simp) (brk_32 r) (shOf_blank (c := 32) (by decide) hr)
  · rename_i h
    have hn := hc.resolve_left h
    have h1 := shOf_quote hn (shOf_blank (c := 32) (by decide) hr)
    have h2 := shOf_known [99, 108, 97, 115, 115] (by decide) (by simp) (brk_32 _) (shOf_blank (c := 32) (by decide) h1)
    have e : ([99, 108, 97, 115, 115, 32, 34] ++ c.data.toList ++ [34] ++ 32 :: r : List UInt8) = [99, 108, 97, 115, 115] ++ 32 :: 34 :: (c.data.toList ++ 34 :: 32 :: r) := by simp
    rw [e]
    exact h2
theorem lx_rule {x : Ru} {r : List UInt8} {ss : List Sh} (h : okR x = true) (hr : ShOf r ss) : ShOf (ruleL x ++ r) (shR x ++ ss) := by
  obtain ⟨_, hc, m, hm⟩ := okR_all h
  have h1 := lx_act (n := x.act) (brk_59 _) (shOf_59 (shOf_blank (c := 10) (by decide) hr))
  have h2 := shOf_known [116, 104, 101, 110] (by decide) (by simp) (brk_32 _) (shOf_blank (c := 32) (by decide) h1)
  have h3 := lx_X x.wh 24 8 m hm _ _ (brk_32 _) (shOf_blank (c := 32) (by decide) h2)
  have h4 := shOf_known [107, 101, 101, 112] (by decide) (by simp) (brk_32 _) (shOf_blank (c := 32) (by decide) h3)
  have h5 := lx_cls hc h4
  unfold ruleL shR
  have e : clsL x.cls ++ ([32, 107, 101, 101, 112, 32] ++ exprL x.wh ++ [32, 116, 104, 101, 110, 32] ++ actL x.act ++ [59, 10]) ++ r = clsL x.cls ++ 32 :: ([107, 101, 101, 112] ++ 32 :: (exprL x.wh ++ 32 :: ([116, 104, 101, 110] ++ 32 :: (actL x.act ++ 59 :: 10 :: r)))) := by simp
  have e2 : shC x.cls ++ (wSh wKeep :: (shX x.wh ++ [wSh wThen, wSh (actW x.act), ⟨6, ⟨#[59]⟩, 0⟩])) ++ ss = shC x.cls ++ wSh wKeep :: (shX x.wh ++ wSh wThen :: wSh (actW x.act) :: ⟨6, ⟨#[59]⟩, 0⟩ :: ss) := by simp
  rw [e, e2]
  exact h5
theorem lx_print : ∀ (rs : List Ru), (∀ r ∈ rs, okR r = true) → ShOf (printL rs) (rs.flatMap shR)
  | [], _ => shOf_nil
  | x :: rs, h => by
    have ih := lx_print rs fun r hr => h r (by simp [hr])
    exact lx_rule (h x (by simp)) ih
/-! What it costs is no more than its bytes. -/
theorem textD_2 {d : Int} (h0 : 0 ≤ d) (h1 : d ≤ 1048576) : 2 ≤ (textD d).length := (text_size d h0 h1).1
theorem sepL_ge (op : Int) : 4 ≤ (sepL op).length := by unfold sepL; split <;> decide
mutual
theorem fu_X : ∀ (x : Ex) (n d m : Nat), mayX x n d = some m → fuX x + 6 ≤ (exprL x).length
  | .mk op days mile ks, n, d, m, h => by
    obtain ⟨_, ⟨rfl, h0, h1, hm, rfl⟩ | ⟨ho, rfl, rfl, hk, hL⟩⟩ := mayX_all h
    · rw [exprL_1, fuX, if_pos rfl]
      have h2 := textD_2 h0 h1
      have h3 := (mile_parts hm).2.2
      have h4 : 1 ≤ mile.data.toList.length := List.length_pos_iff.2 h3
      rw [List.length_append, List.length_append]
      simp only [List.length_cons, List.length_nil]
      omega
    · rw [exprL_2 (by omega), fuX, if_neg (by omega)]
      have h1 := fu_XL op ks _ _ _ hL
      have hne : partsL op ks ≠ [] := by
        intro e
        have := partsL_len op ks
        rw [e] at this
        simp at this
        omega
      have h2 := join_len (sepL op) (partsL op ks) hne
      rw [partsL_len] at h2
      have h3 := sepL_ge op
      obtain ⟨q, hq⟩ : ∃ q, ks.length = q + 2 := ⟨ks.length - 2, by omega⟩
      have h4 : (q + 1) * 4 ≤ (q + 1) * (sepL op).length := Nat.mul_le_mul_left _ h3
      have h5 : ks.length * (sepL op).length = (q + 1) * (sepL op).length + (sepL op).length := by rw [hq, ← Nat.succ_mul]
      omega
theorem fu_XL : ∀ (op : Int) (ks : List Ex) (n d m : Nat), mayXL ks n d = some m → fuXL op ks + 2 * ks.length ≤ sumL (partsL op ks)
  | op, [], _, _, _, _ => by rw [fuXL, partsL]; simp [sumL]
  | op, k :: ks, n, d, m, h => by
    rw [mayXL_cons] at h
    cases hk : mayX k n d with
    | none => rw [hk] at h; cases h
    | some m' =>
      rw [hk] at h
      have h1 := fu_X k n d m' hk
      have h2 := fu_XL op ks m' d m h
      rw [fuXL, partsL, sumL_cons, List.length_cons]
      by_cases hw : wrapB op k = true
      · rw [if_pos hw, if_pos hw, List.length_cons, List.length_append, List.length_singleton]
        omega
      · rw [if_neg hw, if_neg hw]
        omega
end
theorem fu_R {x : Ru} (h : okR x = true) : fuR x ≤ (ruleL x).length := by
  obtain ⟨_, hc, m, hm⟩ := okR_all h
  have h1 := fu_X x.wh 24 8 m hm
  unfold fuR fuC ruleL clsL
  split
  · simp only [List.length_append, List.length_cons, List.length_nil]
    omega
  · simp only [List.length_append, List.length_cons, List.length_nil]
    omega
theorem fu_print : ∀ (rs : List Ru), (∀ r ∈ rs, okR r = true) → fuRs rs ≤ (printL rs).length
  | [], _ => Int.le_refl 0
  | x :: rs, h => by
    have ih := fu_print rs fun r hr => h r (by simp [hr])
    have h1 := fu_R (h x (by simp))
    have e : printL (x :: rs) = ruleL x ++ printL rs := rfl
    rw [fuRs, e, List.length_append]
    omega
/-- What is written is read as it was. -/
theorem read_print {rs : List Ru} {t : List UInt8} (h : printD rs = (t, 0)) {fuel : Int} (hf : 600 ≤ fuel) :
    (lexAll t).2.2 = 0 ∧ runP (lexAll t).1 fuel = (rs, ⟨(lexAll t).1.length, fuel - fuRs rs, 0⟩) ∧ checkD rs = 0 := by
  unfold printD at h
  by_cases h0 : checkD rs = 0
  · rw [if_neg (by omega)] at h
    by_cases h6 : 600 < (printL rs).length
    · rw [if_pos h6] at h
      injection h with _ h
      cases h
    · rw [if_neg h6] at h
      injection h with h _
      subst h
      obtain ⟨_, hok⟩ := checkD_ok h0
      have hs := lx_print rs hok 0
      have hc := fu_print rs hok
      have e : lexAll (printL rs) = lexR (printL rs) 0 := by rw [lexAll, if_neg h6]
      rw [e]
      exact ⟨hs.1, run_back hok hs.2 (by omega), h0⟩
  · rw [if_pos h0] at h
    injection h with _ h
    exact absurd h h0
/-- No two are written the same. -/
theorem print_one {a b : List Ru} {s t : List UInt8} (ha : printD a = (s, 0)) (hb : printD b = (t, 0)) : decide (ba s = ba t) = ruEq a b := by
  rw [Bool.eq_iff_iff, decide_eq_true_eq]
  constructor
  · intro e
    have e1 : s = t := by
      have := congrArg (fun x : ByteArray => x.data.toList) e
      exact this
    subst e1
    have h1 := (read_print ha (Int.le_refl 600)).2.1
    have h2 := (read_print hb (Int.le_refl 600)).2.1
    rw [h1] at h2
    injection h2 with h3 _
    rw [h3]
    exact ruEq_refl b
  · intro e
    have e1 := ruEq_eq a b e
    subst e1
    rw [ha] at hb
    injection hb with h3 _
    rw [h3]
end Go.Proofs.YtogpmihepfnoaaaGreatDoor

namespace Go.Proofs.YtogpmihepfnoaaaGreatDoor
open Go Go.RowKit Go.Sort

theorem RdTks.x {w w' : World} {g : Nat} {v : Value} {ts : List Tk} (h : RdTks w g v ts) (hg : g ≤ w.heap.size) (hx : GrX w w' g) : RdTks w' g v ts := by
  obtain ⟨A, c, e, hc, hr⟩ := h
  exact ⟨A, c, e, hc, hr.keep fun p hp => grx_cell hx (by omega) (by omega)⟩
/-- Where a reader lies, and how it stands. -/
structure Env (ts : List Tk) (L : Value) (E : Int) (w : World) (g : Nat) (s : Pst) : Prop where
  blk : Blk w g 58 #[L, .int .i64 (s.pos : Int), .int .i64 E, .int .i64 s.fuel, .int .i64 s.err]
  rd : RdTks w g L ts
  pos : s.pos ≤ ts.length
  len : ts.length ≤ 600
  lo : -9223372036854775808 ≤ s.fuel
  hi : s.fuel ≤ 9223372036854775807
  small : ∀ t ∈ ts, t.text.size ≤ 600
section
variable {ts : List Tk} {L : Value} {E : Int} {w w' : World} {g : Nat} {s : Pst}
theorem Env.lt (h : Env ts L E w g s) : g < w.heap.size := h.blk.lt
theorem Env.gr (h : Env ts L E w g s) (hg : Gr w w') : Env ts L E w' g s := ⟨h.blk.below hg h.lt, h.rd.x (Nat.le_of_lt h.lt) (GrX.of_gr hg g), h.pos, h.len, h.lo, h.hi, h.small⟩
theorem Env.cells (h : Env ts L E w g s) : w.cell? ⟨g, 0, none⟩ = some L ∧ w.cell? ⟨g, 1, none⟩ = some (.int .i64 (s.pos : Int)) ∧ w.cell? ⟨g, 2, none⟩ = some (.int .i64 E) ∧ w.cell? ⟨g, 3, none⟩ = some (.int .i64 s.fuel) ∧ w.cell? ⟨g, 4, none⟩ = some (.int .i64 s.err) ∧
    w.frozen? ⟨g, 1, none⟩ = false ∧ w.frozen? ⟨g, 3, none⟩ = false ∧ w.frozen? ⟨g, 4, none⟩ = false :=
  ⟨h.blk.cell 0, h.blk.cell 1, h.blk.cell 2, h.blk.cell 3, h.blk.cell 4, h.blk.frozen 1, h.blk.frozen 3, h.blk.frozen 4⟩
theorem Env.setE (h : Env ts L E w g s) (e : Int) : Env ts L E (w.setCell ⟨g, 4, none⟩ (.int .i64 e)) g { s with err := e } ∧ GrX w (w.setCell ⟨g, 4, none⟩ (.int .i64 e)) g :=
  ⟨⟨by simpa using h.blk.set_ 4 (.int .i64 e), h.rd.x (Nat.le_of_lt h.lt) (GrX.set_ (World.grownBy.refl w (some g)) 4 _), h.pos, h.len, h.lo, h.hi, h.small⟩, GrX.set_ (World.grownBy.refl w (some g)) 4 _⟩
theorem Env.setF (h : Env ts L E w g s) (h1 : 1 ≤ s.fuel) : Env ts L E (w.setCell ⟨g, 3, none⟩ (.int .i64 (s.fuel - 1))) g { s with fuel := s.fuel - 1 } ∧ GrX w (w.setCell ⟨g, 3, none⟩ (.int .i64 (s.fuel - 1))) g :=
  ⟨⟨by simpa using h.blk.set_ 3 (.int .i64 (s.fuel - 1)), h.rd.x (Nat.le_of_lt h.lt) (GrX.set_ (World.grownBy.refl w (some g)) 3 _), h.pos, h.len, by have := h.lo; dsimp only; omega, by have := h.hi; dsimp only; omega, h.small⟩, GrX.set_ (World.grownBy.refl w (some g)) 3 _⟩
theorem Env.setP (h : Env ts L E w g s) (h1 : s.pos < ts.length) : Env ts L E (w.setCell ⟨g, 1, none⟩ (.int .i64 ((s.pos : Int) + 1))) g { s with pos := s.pos + 1 } ∧ GrX w (w.setCell ⟨g, 1, none⟩ (.int .i64 ((s.pos : Int) + 1))) g :=
  ⟨⟨by simpa using h.blk.set_ 1 (.int .i64 ((s.pos : Int) + 1)), h.rd.x (Nat.le_of_lt h.lt) (GrX.set_ (World.grownBy.refl w (some g)) 1 _), h1, h.len, h.lo, h.hi, h.small⟩, GrX.set_ (World.grownBy.refl w (some g)) 1 _⟩
/-- What a method makes: the state behind, and all else as it was. -/
structure MadeR (ts : List Tk) (L : Value) (E : Int) (w : World) (g : Nat) (s' : Pst) (w' : World) : Prop where
  env : Env ts L E w' g s'
  gx : GrX w w' g
theorem MadeR.tr {w1 : World} {s1 s2 : Pst} (h : MadeR ts L E w g s1 w1) (k : MadeR ts L E w1 g s2 w') : MadeR ts L E w g s2 w' := ⟨k.1, GrX.tr h.2 k.2⟩
theorem MadeR.gr {w1 : World} {s1 : Pst} (h : MadeR ts L E w g s1 w1) (k : Gr w1 w') : MadeR ts L E w g s1 w' := ⟨h.1.gr k, GrX.tr h.2 (GrX.of_gr k g)⟩
theorem MadeR.refl (h : Env ts L E w g s) : MadeR ts L E w g s w := ⟨h, World.grownBy.refl _ _⟩
theorem MadeR.of_gr (h : Env ts L E w g s) (k : Gr w w') : MadeR ts L E w g s w' := ⟨h.gr k, GrX.of_gr k g⟩

set_option maxRecDepth 100000 in
theorem pok_any (h : Env ts L E w g s) : Calls Tryz.prog 22 #[.pointer (some ⟨g, 0, none⟩)] w fun e w' => e = .returned (.bool (decide (s.err = 0))) ∧ w = w' := by
  obtain ⟨c0, c1, c2, c3, c4, f1, f3, f4⟩ := h.cells
  obtain ⟨p, f, e⟩ := s
  dsimp only at *
  clear h
  by_cases he : e = 0
  · subst he
    go_enter Tryz.func22, Tryz.ntmps22
    go_wp2
    go_ret
    exact ⟨rfl, rfl⟩
  · have e1 : (e == 0) = false := by simp [he]
    have e2 : decide (e = 0) = false := decide_eq_false he
    rw [e2]
    clear e2
    go_enter Tryz.func22, Tryz.ntmps22
    go_wp2
    go_ret
    exact ⟨rfl, rfl⟩
theorem pok_yes (h : Env ts L E w g s) (he : s.err = 0) : Calls Tryz.prog 22 #[.pointer (some ⟨g, 0, none⟩)] w fun e w' => e = .returned (.bool true) ∧ w = w' := by
  have := pok_any h
  rwa [decide_eq_true he] at this
theorem pok_no (h : Env ts L E w g s) (he : s.err ≠ 0) : Calls Tryz.prog 22 #[.pointer (some ⟨g, 0, none⟩)] w fun e w' => e = .returned (.bool false) ∧ w = w' := by
  have := pok_any h
  rwa [decide_eq_false he] at this
set_option maxRecDepth 100000 in
theorem pfail_any (h : Env ts L E w g s) (c : Int) : Calls Tryz.prog 60 #[.pointer (some ⟨g, 0, none⟩), .int .i64 c] w fun e w' => (∃ v, e = .returned v) ∧ MadeR ts L E w g (failD c s) w' := by
  obtain ⟨c0, c1, c2, c3, c4, f1, f3, f4⟩ := h.cells
  by_cases he : s.err = 0
  · have cO := pok_yes h he
    have hS := h.setE c
    have e1 : failD c s = { s with err := c } := by unfold failD; rw [if_pos he]
    rw [e1]
    clear h he e1
    go_enter Tryz.func60, Tryz.ntmps60
    go_wp2_with (go_at_call 22; (with_reducible refine cO.mono ?_); rintro e w1 ⟨rfl, rfl⟩)
    go_end0
    exact ⟨⟨_, rfl⟩, hS.1, hS.2⟩
  · have cO := pok_no h he
    have hS := MadeR.refl h
    have e1 : failD c s = s := by unfold failD; rw [if_neg he]
    rw [e1]
    clear h he e1
    go_enter Tryz.func60, Tryz.ntmps60
    go_wp2_with (go_at_call 22; (with_reducible refine cO.mono ?_); rintro e w1 ⟨rfl, rfl⟩)
    go_end0
    exact ⟨⟨_, rfl⟩, hS.1, hS.2⟩
set_option maxRecDepth 100000 in
theorem pburn_any (h : Env ts L E w g s) : Calls Tryz.prog 59 #[.pointer (some ⟨g, 0, none⟩)] w fun e w' => e = .returned (.bool (decide ((burnD s).err = 0))) ∧ MadeR ts L E w g (burnD s) w' := by
  obtain ⟨c0, c1, c2, c3, c4, f1, f3, f4⟩ := h.cells
  have lo := h.lo
  have hi := h.hi
  have hb : burnD s = if s.err = 0 then (if s.fuel < 1 then { s with err := 14 } else { s with fuel := s.fuel - 1 }) else s := rfl
  by_cases h1 : s.fuel < 1
  · have cF := pfail_any h 14
    have hbf : burnD s = failD 14 s := by rw [hb, if_pos h1]; rfl
    rw [hbf]
    have hn : (failD 14 s).err ≠ 0 := by
      unfold failD
      split
      · show (14 : Int) ≠ 0; omega
      · assumption
    rw [decide_eq_false hn]
    clear h hb hbf
    generalize failD 14 s = q at *
    go_enter Tryz.func59, Tryz.ntmps59
    go_wp2_with (first
      | (go_at_call 60; (with_reducible refine cF.mono ?_); rintro e w1 ⟨⟨v1, rfl⟩, hm1⟩)
      | (go_at_call 22; ((with_reducible refine (pok_no hm1.1 hn).mono ?_); rintro e w2 ⟨rfl, rfl⟩)))
    go_ret
    exact ⟨rfl, hm1⟩
  · have h1' : 1 ≤ s.fuel := by omega
    by_cases he : s.err = 0
    · have cO := pok_yes h he
      have hS := h.setF h1'
      have e1 : burnD s = { s with fuel := s.fuel - 1 } := by rw [hb, if_pos he, if_neg h1]
      rw [e1]
      have cO2 := pok_yes hS.1 he
      dsimp only
      rw [decide_eq_true he]
      clear h he e1 hb h1
      go_enter Tryz.func59, Tryz.ntmps59
      go_wp2_with (first
        | (go_at_call 22; (with_reducible refine cO.mono ?_); rintro e w1 ⟨rfl, rfl⟩)
        | (go_at_call 22; (with_reducible refine cO2.mono ?_); rintro e w1 ⟨rfl, rfl⟩))
      go_ret
      exact ⟨rfl, hS.1, hS.2⟩
    · have cO := pok_no h he
      have hS := MadeR.refl h
      have e1 : burnD s = s := by rw [hb, if_neg he]
      rw [e1, decide_eq_false he]
      clear h he e1 hb h1
      go_enter Tryz.func59, Tryz.ntmps59
      go_wp2_with (go_at_call 22; (with_reducible refine cO.mono ?_); rintro e w1 ⟨rfl, rfl⟩)
      go_ret
      exact ⟨rfl, hS.1, hS.2⟩
theorem pburn_yes (h : Env ts L E w g s) (he : (burnD s).err = 0) : Calls Tryz.prog 59 #[.pointer (some ⟨g, 0, none⟩)] w fun e w' => e = .returned (.bool true) ∧ MadeR ts L E w g (burnD s) w' := by
  have := pburn_any h
  rwa [decide_eq_true he] at this
theorem pburn_no (h : Env ts L E w g s) (he : (burnD s).err ≠ 0) : Calls Tryz.prog 59 #[.pointer (some ⟨g, 0, none⟩)] w fun e w' => e = .returned (.bool false) ∧ MadeR ts L E w g (burnD s) w' := by
  have := pburn_any h
  rwa [decide_eq_false he] at this
theorem quiet_sm_ {P : Program} {f : FuncId} {args : Array Value} {w : World} {n : Nat} {v : Value} (h : Calls P f args (w.drewN n) fun e w' => e = .returned v ∧ w.drewN n = w') : Calls P f args (w.drewN n) fun e w'' => e = .returned v ∧ ∃ m, w'' = w.drewN m :=
  h.mono fun _ _ ⟨h1, h2⟩ => ⟨h1, n, h2.symm⟩
theorem wp_region_tail {P : Program} {id : Nat} {Q : Exit → Act → World → Prop} {a : Act} {w : World} {l : List Oper} (n : Nat) (hm : P.follows .mixedOrders = true) (hB : Region.lexTailB .any l.toArray n = true)
    (h : wpStill P l.toArray w.drew (fun a' => wpList P l.toArray Q (l.drop n) a' w.drew) (l.take n) a) : (Code.region id l.toArray true).wp P Q a w := wp_region_still_tail n hm hB h
/-- The next word; is there one? -/
def peekD (ts : List Tk) (s : Pst) : Tk × Bool := if s.err = 0 then (match ts[s.pos]? with | some t => (t, true) | none => (Tk.zero, false)) else (Tk.zero, false)
abbrev tkV (t : Tk) : Value := .agg #[.int .i64 t.kind, .string t.text, .int .i64 t.n, .int .i64 t.at_]
set_option maxRecDepth 100000 in
set_option maxHeartbeats 1000000 in
theorem ppeek_any (h : Env ts L E w g s) : Calls Tryz.prog 77 #[.pointer (some ⟨g, 0, none⟩)] w fun e w' => e = .returned (.tuple #[tkV (peekD ts s).1, .bool (peekD ts s).2]) ∧ Gr w w' := by
  obtain ⟨A, c, rfl, hc⟩ := h.rd.form
  have hgl := h.lt
  have hlen := h.len
  have hB0 := Blk.new w 73 (tkC 0 ⟨#[]⟩ 0 0)
  have hGA := Gr.alloc w (.cells (tkC 0 ⟨#[]⟩ 0 0) 73)
  have hA := h.gr hGA
  obtain ⟨c0, c1, c2, c3, c4, f1, f3, f4⟩ := hA.cells
  by_cases he : s.err = 0
  · have cO := fun n => pok_yes (hA.gr (Gr.drewN _ n)) he
    cases ht : ts[s.pos]? with
    | none =>
      have e1 : peekD ts s = (Tk.zero, false) := by unfold peekD; rw [if_pos he, ht]
      rw [e1]
      have hp : ts.length ≤ s.pos := List.getElem?_eq_none_iff.1 ht
      have hp' : s.pos = ts.length := by have := h.pos; omega
      rw [hp'] at c1
      clear h hA ht he e1 hp hp'
      go_enter Tryz.func77, Tryz.ntmps77
      go_wp2
      go_quiet ((go_at_call 22; exact quiet_sm_ (cO _)))
      go_wp2
      obtain ⟨z0, z1, z2, z3, -⟩ := tk_cells ((hB0.drewN nq).tk4 (y0 := .int .i64 0) (y1 := .string ⟨#[]⟩) (y2 := .int .i64 0) (y3 := .int .i64 0))
      exact bodyPost_ret (v := .tuple #[tkV Tk.zero, .bool false]) (by simp [results, Tryz.results77, go_sem, z0, z1, z2, z3]) rfl ⟨rfl, gr_tk4 (Gr.trans hGA (Gr.drewN _ _)) (Nat.le_refl _)⟩
    | some t =>
      have e1 : peekD ts s = (t, true) := by unfold peekD; rw [if_pos he, ht]
      rw [e1]
      obtain ⟨hp, -⟩ := List.getElem?_eq_some_iff.1 ht
      have hp1 : (s.pos : Int) < (ts.length : Int) := by omega
      obtain ⟨ad, P, rfl, eP, hP, k0, k1, k2, k3⟩ := hA.rd.tok s.pos t ht
      clear h hA ht he e1
      go_enter Tryz.func77, Tryz.ntmps77
      go_wp2
      go_quiet ((go_at_call 22; exact quiet_sm_ (cO _)))
      go_wp2
      refine wp_region_tail 10 (by kernel_rfl) (by kernel_rfl) ?_
      simp only [List.take_succ_cons, List.take_zero, List.drop_succ_cons, List.drop_zero]
      repeat still_step
      refine wpStill_nil ?_
      go_wp2
      exact bodyPost_ret (v := .tuple #[tkV t, .bool true]) (by simp [results, Tryz.results77, go_sem]) rfl ⟨rfl, gr_tk4 (Gr.trans (Gr.trans hGA (Gr.drewN _ _)) (Gr.drew _)) (Nat.le_refl _)⟩
  · have cO := fun n => pok_no (hA.gr (Gr.drewN _ n)) he
    have e1 : peekD ts s = (Tk.zero, false) := by unfold peekD; rw [if_neg he]
    rw [e1]
    clear h hA he e1
    go_enter Tryz.func77, Tryz.ntmps77
    go_wp2
    go_quiet ((go_at_call 22; exact quiet_sm_ (cO _)))
    go_wp2
    obtain ⟨z0, z1, z2, z3, -⟩ := tk_cells ((hB0.drewN nq).tk4 (y0 := .int .i64 0) (y1 := .string ⟨#[]⟩) (y2 := .int .i64 0) (y3 := .int .i64 0))
    exact bodyPost_ret (v := .tuple #[tkV Tk.zero, .bool false]) (by simp [results, Tryz.results77, go_sem, z0, z1, z2, z3]) rfl ⟨rfl, gr_tk4 (Gr.trans hGA (Gr.drewN _ _)) (Nat.le_refl _)⟩
end
end Go.Proofs.YtogpmihepfnoaaaGreatDoor

namespace Go.Proofs.YtogpmihepfnoaaaGreatDoor
open Go Go.RowKit Go.Sort

section
variable {ts : List Tk} {L : Value} {E : Int} {w w' : World} {g : Nat} {s : Pst}
theorem Env.far (h : Env ts L E w g s) {p : Addr} (hp : g < p.block) (v : Value) : Env ts L E (w.setCell p v) g s := by
  have hx : GrX w (w.setCell p v) p.block := ⟨rfl, rfl, rfl, by simp [World.setCell], fun k _ hk => Below.heap_setCell w p v k (by intro e; exact hk (by rw [e]))⟩
  refine ⟨h.blk.far (by omega) v, ?_, h.pos, h.len, h.lo, h.hi, h.small⟩
  obtain ⟨A, c, e, hc, hr⟩ := h.rd
  exact ⟨A, c, e, hc, hr.keep fun q hq => grx_cell hx (by have := h.lt; omega) (by omega)⟩
theorem MadeR.far {w1 : World} {s1 : Pst} (h : MadeR ts L E w g s1 w1) (hg : g < w.heap.size) {p : Addr} (hp : w.heap.size ≤ p.block) (v : Value) : MadeR ts L E w g s1 (w1.setCell p v) :=
  ⟨h.1.far (by omega) v, ⟨h.2.os, h.2.tape, h.2.output, by simpa [World.setCell] using h.2.size, fun k hk hne => (Below.heap_setCell w1 p v k (by omega)).trans (h.2.block k hk hne)⟩⟩
theorem MadeR.set4 {w1 : World} {s1 : Pst} (h : MadeR ts L E w g s1 w1) (hg : g < w.heap.size) {r : Nat} (hr : w.heap.size ≤ r) (y0 y1 y2 y3 : Value) : MadeR ts L E w g s1 (set4w w1 r y0 y1 y2 y3) :=
  (((h.far hg hr y0).far hg hr y1).far hg hr y2).far hg hr y3
theorem Blk.x {w1 : World} {g b : Nat} {T : TypeId} {cs : Array Value} (h : Blk w b T cs) (hx : GrX w w1 g) (hn : b ≠ g) : Blk w1 b T cs := h.grown hx (fun e => hn (Option.some.inj e))
set_option maxRecDepth 100000 in
theorem isword_any (t : Tk) (m : ByteArray) (w : World) : Calls Tryz.prog 58 #[tkV t, .string m] w fun e w' => e = .returned (.bool (wdB m t)) ∧ Gr w w' := by
  obtain ⟨k, x, n, a⟩ := t
  unfold wdB
  try dsimp only
  by_cases hk : k = 1
  · subst hk
    by_cases hx : x = m
    · subst hx
      rw [decide_eq_true rfl, decide_eq_true rfl]
      go_enter Tryz.func58, Tryz.ntmps58
      go_wp2
      go_ret
      exact ⟨rfl, Gr.alloc _ _⟩
    · obtain ⟨n1, n2⟩ := str_neq hx
      rw [decide_eq_true rfl, decide_eq_false hx]
      clear hx
      go_enter Tryz.func58, Tryz.ntmps58
      go_wp2
      go_ret
      exact ⟨rfl, Gr.alloc _ _⟩
  · have e1 : (k == 1) = false := by simp [hk]
    have e2 : decide (k = 1) = false := decide_eq_false hk
    rw [e2, Bool.false_and]
    clear e2
    go_enter Tryz.func58, Tryz.ntmps58
    go_wp2
    go_ret
    exact ⟨rfl, Gr.alloc _ _⟩
set_option maxRecDepth 100000 in
theorem clkind_any (t : Tk) (k : Int) (b : Nat) (w : World) (hb : Blk w b 3 #[.int .i64 k]) : Calls Tryz.prog 63 #[tkV t, .pointer (some ⟨b, 0, none⟩)] w fun e w' => e = .returned (.bool (kindB k t)) ∧ Gr w w' := by
  obtain ⟨k', x, n, a⟩ := t
  unfold kindB
  try dsimp only
  have c0 := (hb.alloc (.cells (tkC k' x n a) 73)).cell 0
  by_cases hk : k' = k
  · subst hk
    rw [decide_eq_true rfl]
    go_enter Tryz.func63, Tryz.ntmps63
    go_wp2
    go_ret
    exact ⟨rfl, Gr.alloc _ _⟩
  · have e1 : (k' == k) = false := by simp [hk]
    rw [decide_eq_false hk]
    go_enter Tryz.func63, Tryz.ntmps63
    go_wp2
    go_ret
    exact ⟨rfl, Gr.alloc _ _⟩
set_option maxRecDepth 100000 in
theorem clword_any (t : Tk) (m : ByteArray) (b : Nat) (w : World) (hb : Blk w b 9 #[.string m]) : Calls Tryz.prog 57 #[tkV t, .pointer (some ⟨b, 0, none⟩)] w fun e w' => e = .returned (.bool (wdB m t)) ∧ Gr w w' := by
  have cI := isword_any t m (w.alloc (.cells (tkC t.kind t.text t.n t.at_) 73))
  generalize wdB m t = q at *
  obtain ⟨k', x, n, a⟩ := t
  dsimp only at *
  have c0 := (hb.alloc (.cells (tkC k' x n a) 73)).cell 0
  go_enter Tryz.func57, Tryz.ntmps57
  go_wp2_with (go_at_call 58; (with_reducible refine cI.mono ?_); rintro e w1 ⟨rfl, hb1⟩)
  go_ret
  exact ⟨rfl, Gr.trans (Gr.alloc _ _) hb1⟩
set_option maxRecDepth 100000 in
theorem clmile_any (t : Tk) (w : World) (ht : t.text.size ≤ 600) : Calls Tryz.prog 92 #[tkV t] w fun e w' => e = .returned (.bool (mileB t)) ∧ Gr w w' := by
  have cW := fun W => mword_any t.text W (by omega)
  unfold mileB
  obtain ⟨k, x, n, a⟩ := t
  dsimp only at *
  by_cases hk : k = 1
  · subst hk
    rw [decide_eq_true rfl, Bool.true_and]
    generalize mileD x = q at *
    go_enter Tryz.func92, Tryz.ntmps92
    go_wp2_with (go_at_call 80; (with_reducible refine (cW _).mono ?_); rintro e w1 ⟨rfl, hb1⟩)
    go_ret
    exact ⟨rfl, Gr.trans (Gr.alloc _ _) hb1⟩
  · have e1 : (k == 1) = false := by simp [hk]
    have e2 : decide (k = 1) = false := decide_eq_false hk
    rw [e2, Bool.false_and]
    clear e2
    go_enter Tryz.func92, Tryz.ntmps92
    go_wp2
    go_ret
    exact ⟨rfl, Gr.alloc _ _⟩
theorem peek_burn (s : Pst) (he : (burnD s).err = 0) (ts : List Tk) : peekD ts (burnD s) = match ts[s.pos]? with | some t => (t, true) | none => (Tk.zero, false) := by
  unfold peekD
  rw [if_pos he, burn_pos]
  try (cases ts[s.pos]? <;> rfl)
set_option maxRecDepth 100000 in
set_option maxHeartbeats 2000000 in
theorem ptake_kind (k : Int) (b : Nat) (hb : Blk w b 3 #[.int .i64 k]) (hbg : b ≠ g) (h : Env ts L E w g s) : Calls Tryz.prog 56 #[.pointer (some ⟨g, 0, none⟩), .func (.func 63) #[] #[.pointer (some ⟨b, 0, none⟩)]] w fun e w' => e = .returned (tkV (takeT ts (kindB k) s).1) ∧ MadeR ts L E w g (takeT ts (kindB k) s).2 w' := by
  have hgl := h.lt
  have hB0 := Blk.new w 73 (tkC 0 ⟨#[]⟩ 0 0)
  have hGA := Gr.alloc w (.cells (tkC 0 ⟨#[]⟩ 0 0) 73)
  have hA := h.gr hGA
  by_cases he : (burnD s).err = 0
  · have cB := pburn_yes hA he
    have hpk := peek_burn s he ts
    have cP := fun W (hm : MadeR ts L E (w.alloc (.cells (tkC 0 ⟨#[]⟩ 0 0) 73)) g (burnD s) W) => ppeek_any hm.1
    have cF := fun W (hm : Env ts L E W g (burnD s)) => pfail_any hm 2
    have ef : failD 2 (burnD s) = { burnD s with err := 2 } := by unfold failD; rw [if_pos he]
    rw [hpk] at cP
    cases ht : ts[s.pos]? with
    | none =>
      have e1 : takeT ts (kindB k) s = (Tk.zero, failD 2 (burnD s)) := by unfold takeT; rw [if_neg (by simp [he]), ht, ef]
      rw [e1]
      rw [ht] at cP
      dsimp only at cP ⊢
      generalize failD 2 (burnD s) = q at *
      generalize burnD s = b0 at *
      clear e1 ef ht hpk he h
      go_enter Tryz.func56, Tryz.ntmps56
      go_wp2_with (first
        | (go_at_call 59; (with_reducible refine cB.mono ?_); rintro e w1 ⟨rfl, hm1⟩)
        | (go_at_call 77; go_loud ((with_reducible refine (cP _ hm1).mono ?_); rintro e w2 ⟨rfl, hb2⟩)
           have hG2 := Gr.alloc w2 (.cells (tkC 0 ⟨#[]⟩ 0 0) 73))
        | (go_at_call 60; go_loud ((with_reducible refine (cF _ ((hm1.gr hb2).gr hG2).1).mono ?_); rintro e w3 ⟨⟨v3, rfl⟩, hm3⟩)
           have hX : MadeR ts L E w g q w3 := ⟨hm3.1, GrX.tr (GrX.of_gr hGA g) (GrX.tr ((hm1.gr hb2).gr hG2).2 hm3.2)⟩
           have hBr : Blk w3 w.heap.size 73 (tkC 0 ⟨#[]⟩ 0 0) := (((hB0.x hm1.2 (by omega)).x (GrX.of_gr (Gr.trans hb2 hG2) g) (by omega)).x hm3.2 (by omega))
           obtain ⟨r0, r1, r2, r3, q0, q1, q2, q3⟩ := tk_cells hBr))
      obtain ⟨z0, z1, z2, z3, -⟩ := tk_cells (hBr.tk4 (y0 := .int .i64 0) (y1 := .string ⟨#[]⟩) (y2 := .int .i64 0) (y3 := .int .i64 0))
      exact bodyPost_ret (v := tkV Tk.zero) (by simp [results, Tryz.results56, go_sem, z0, z1, z2, z3]) rfl ⟨rfl, hX.set4 hgl (Nat.le_refl _) _ _ _ _⟩
    | some t =>
      rw [ht] at cP
      dsimp only at cP
      obtain ⟨hpl, -⟩ := List.getElem?_eq_some_iff.1 ht
      have hsm := h.small t (List.mem_of_getElem? ht)
      have hbp : (burnD s).pos < ts.length := by rw [burn_pos]; exact hpl
      cases hp : (kindB k) t with
      | false =>
        have e1 : takeT ts (kindB k) s = (Tk.zero, failD 2 (burnD s)) := by unfold takeT; rw [if_neg (by simp [he]), ht]; dsimp only; rw [hp, ef]; rfl
        rw [e1]
        have cC := fun W (hb : Blk W b 3 #[.int .i64 k]) => clkind_any t k b W hb
        rw [hp] at cC
        try dsimp only at cP ⊢
        generalize failD 2 (burnD s) = q at *
        generalize burnD s = b0 at *
        obtain ⟨tk, tx, tn, ta⟩ := t
        try dsimp only at cP cC ⊢
        clear e1 ef ht hpk he h hp hsm
        go_enter Tryz.func56, Tryz.ntmps56
        go_wp2_with (first
          | (go_at_call 59; (with_reducible refine cB.mono ?_); rintro e w1 ⟨rfl, hm1⟩)
          | (go_at_call 77; (with_reducible refine (cP _ hm1).mono ?_); rintro e w2 ⟨rfl, hb2⟩
             have hB5 := Blk.new w2 73 (tkC tk tx tn ta)
             have hG2 := Gr.alloc w2 (.cells (tkC tk tx tn ta) 73)
             obtain ⟨y0, y1, y2, y3, -⟩ := tk_cells hB5)
          | (go_at_call 63; (with_reducible refine (cC _ (((hb.below hGA hb.lt).x (hm1.gr hb2).2 hbg).below hG2 (Nat.lt_of_lt_of_le (Nat.lt_of_lt_of_le hb.lt hGA.size) (hm1.gr hb2).2.size))).mono ?_); rintro e w4 ⟨rfl, hb4⟩
             have hm4 := ((hm1.gr hb2).gr hG2).gr hb4)
          | (go_at_call 60; (with_reducible refine (cF _ hm4.1).mono ?_); rintro e w3 ⟨⟨v3, rfl⟩, hm3⟩
             have hX : MadeR ts L E w g q w3 := ⟨hm3.1, GrX.tr (GrX.of_gr hGA g) (GrX.tr hm4.2 hm3.2)⟩
             have hBr : Blk w3 w.heap.size 73 (tkC 0 ⟨#[]⟩ 0 0) := (hB0.x hm4.2 (by omega)).x hm3.2 (by omega)
             obtain ⟨r0, r1, r2, r3, q0, q1, q2, q3⟩ := tk_cells hBr))
        obtain ⟨z0, z1, z2, z3, -⟩ := tk_cells (hBr.tk4 (y0 := .int .i64 0) (y1 := .string ⟨#[]⟩) (y2 := .int .i64 0) (y3 := .int .i64 0))
        exact bodyPost_ret (v := tkV Tk.zero) (by simp [results, Tryz.results56, go_sem, z0, z1, z2, z3]) rfl ⟨rfl, hX.set4 hgl (Nat.le_refl _) _ _ _ _⟩
      | true =>
        have e1 : takeT ts (kindB k) s = (t, { burnD s with pos := s.pos + 1 }) := by unfold takeT; rw [if_neg (by simp [he]), ht]; dsimp only; rw [hp]; rfl
        rw [e1]
        rw [show s.pos = (burnD s).pos from (burn_pos s).symm] at e1 ⊢
        have cC := fun W (hb : Blk W b 3 #[.int .i64 k]) => clkind_any t k b W hb
        rw [hp] at cC
        try dsimp only at cP ⊢
        have hlen := h.len
        generalize burnD s = b0 at *
        obtain ⟨tk, tx, tn, ta⟩ := t
        try dsimp only at cP cC ⊢
        clear e1 ef ht hpk he h hp hsm cF
        go_enter Tryz.func56, Tryz.ntmps56
        go_wp2_with (first
          | (go_at_call 59; (with_reducible refine cB.mono ?_); rintro e w1 ⟨rfl, hm1⟩)
          | (go_at_call 77; (with_reducible refine (cP _ hm1).mono ?_); rintro e w2 ⟨rfl, hb2⟩
             have hB5 := Blk.new w2 73 (tkC tk tx tn ta)
             have hG2 := Gr.alloc w2 (.cells (tkC tk tx tn ta) 73)
             obtain ⟨y0, y1, y2, y3, -⟩ := tk_cells hB5)
          | (go_at_call 63; (with_reducible refine (cC _ (((hb.below hGA hb.lt).x (hm1.gr hb2).2 hbg).below hG2 (Nat.lt_of_lt_of_le (Nat.lt_of_lt_of_le hb.lt hGA.size) (hm1.gr hb2).2.size))).mono ?_); rintro e w4 ⟨rfl, hb4⟩
             have hm4 := ((hm1.gr hb2).gr hG2).gr hb4
             obtain ⟨k0, k1, k2, k3, k4, f1, f3, f4⟩ := hm4.1.cells
             obtain ⟨hE5, hx5⟩ := hm4.1.setP hbp
             have hX : MadeR ts L E w g { b0 with pos := b0.pos + 1 } (w4.setCell ⟨g, 1, none⟩ (.int .i64 ((b0.pos : Int) + 1))) := ⟨hE5, GrX.tr (GrX.of_gr hGA g) (GrX.tr hm4.2 hx5)⟩
             have hBr : Blk (w4.setCell ⟨g, 1, none⟩ (.int .i64 ((b0.pos : Int) + 1))) w.heap.size 73 (tkC 0 ⟨#[]⟩ 0 0) := (hB0.x hm4.2 (by omega)).x hx5 (by omega)
             have hw2 : g < w2.heap.size := by have := (hm1.gr hb2).1.lt; omega
             have hBt : Blk (w4.setCell ⟨g, 1, none⟩ (.int .i64 ((b0.pos : Int) + 1))) w2.heap.size 73 (tkC tk tx tn ta) := (hB5.below hb4 hB5.lt).x hx5 (by omega)
             obtain ⟨r0, r1, r2, r3, q0, q1, q2, q3⟩ := tk_cells hBr
             obtain ⟨t0, t1, t2, t3, -⟩ := tk_cells hBt))
        obtain ⟨z0, z1, z2, z3, -⟩ := tk_cells (hBr.tk4 (y0 := .int .i64 tk) (y1 := .string tx) (y2 := .int .i64 tn) (y3 := .int .i64 ta))
        exact bodyPost_ret (v := tkV ⟨tk, tx, tn, ta⟩) (by simp [results, Tryz.results56, go_sem, z0, z1, z2, z3]) rfl ⟨rfl, hX.set4 hgl (Nat.le_refl _) _ _ _ _⟩
  · have cB := pburn_no hA he
    have e1 : takeT ts (kindB k) s = (Tk.zero, burnD s) := by unfold takeT; rw [if_pos he]
    rw [e1]
    generalize burnD s = b0 at *
    clear e1 h
    go_enter Tryz.func56, Tryz.ntmps56
    go_wp2_with (go_at_call 59; (with_reducible refine cB.mono ?_); rintro e w1 ⟨rfl, hm1⟩
                 have hX : MadeR ts L E w g b0 w1 := ⟨hm1.1, GrX.tr (GrX.of_gr hGA g) hm1.2⟩
                 have hBr : Blk w1 w.heap.size 73 (tkC 0 ⟨#[]⟩ 0 0) := hB0.x hm1.2 (by omega)
                 obtain ⟨r0, r1, r2, r3, q0, q1, q2, q3⟩ := tk_cells hBr)
    obtain ⟨z0, z1, z2, z3, -⟩ := tk_cells (hBr.tk4 (y0 := .int .i64 0) (y1 := .string ⟨#[]⟩) (y2 := .int .i64 0) (y3 := .int .i64 0))
    exact bodyPost_ret (v := tkV Tk.zero) (by simp [results, Tryz.results56, go_sem, z0, z1, z2, z3]) rfl ⟨rfl, hX.set4 hgl (Nat.le_refl _) _ _ _ _⟩
set_option maxRecDepth 100000 in
set_option maxHeartbeats 2000000 in
theorem ptake_word (m : ByteArray) (b : Nat) (hb : Blk w b 9 #[.string m]) (hbg : b ≠ g) (h : Env ts L E w g s) : Calls Tryz.prog 56 #[.pointer (some ⟨g, 0, none⟩), .func (.func 57) #[] #[.pointer (some ⟨b, 0, none⟩)]] w fun e w' => e = .returned (tkV (takeT ts (wdB m) s).1) ∧ MadeR ts L E w g (takeT ts (wdB m) s).2 w' := by
  have hgl := h.lt
  have hB0 := Blk.new w 73 (tkC 0 ⟨#[]⟩ 0 0)
  have hGA := Gr.alloc w (.cells (tkC 0 ⟨#[]⟩ 0 0) 73)
  have hA := h.gr hGA
  by_cases he : (burnD s).err = 0
  · have cB := pburn_yes hA he
    have hpk := peek_burn s he ts
    have cP := fun W (hm : MadeR ts L E (w.alloc (.cells (tkC 0 ⟨#[]⟩ 0 0) 73)) g (burnD s) W) => ppeek_any hm.1
    have cF := fun W (hm : Env ts L E W g (burnD s)) => pfail_any hm 2
    have ef : failD 2 (burnD s) = { burnD s with err := 2 } := by unfold failD; rw [if_pos he]
    rw [hpk] at cP
    cases ht : ts[s.pos]? with
    | none =>
      have e1 : takeT ts (wdB m) s = (Tk.zero, failD 2 (burnD s)) := by unfold takeT; rw [if_neg (by simp [he]), ht, ef]
      rw [e1]
      rw [ht] at cP
      dsimp only at cP ⊢
      generalize failD 2 (burnD s) = q at *
      generalize burnD s = b0 at *
      clear e1 ef ht hpk he h
      go_enter Tryz.func56, Tryz.ntmps56
      go_wp2_with (first
        | (go_at_call 59; (with_reducible refine cB.mono ?_); rintro e w1 ⟨rfl, hm1⟩)
        | (go_at_call 77; go_loud ((with_reducible refine (cP _ hm1).mono ?_); rintro e w2 ⟨rfl, hb2⟩)
           have hG2 := Gr.alloc w2 (.cells (tkC 0 ⟨#[]⟩ 0 0) 73))
        | (go_at_call 60; go_loud ((with_reducible refine (cF _ ((hm1.gr hb2).gr hG2).1).mono ?_); rintro e w3 ⟨⟨v3, rfl⟩, hm3⟩)
           have hX : MadeR ts L E w g q w3 := ⟨hm3.1, GrX.tr (GrX.of_gr hGA g) (GrX.tr ((hm1.gr hb2).gr hG2).2 hm3.2)⟩
           have hBr : Blk w3 w.heap.size 73 (tkC 0 ⟨#[]⟩ 0 0) := (((hB0.x hm1.2 (by omega)).x (GrX.of_gr (Gr.trans hb2 hG2) g) (by omega)).x hm3.2 (by omega))
           obtain ⟨r0, r1, r2, r3, q0, q1, q2, q3⟩ := tk_cells hBr))
      obtain ⟨z0, z1, z2, z3, -⟩ := tk_cells (hBr.tk4 (y0 := .int .i64 0) (y1 := .string ⟨#[]⟩) (y2 := .int .i64 0) (y3 := .int .i64 0))
      exact bodyPost_ret (v := tkV Tk.zero) (by simp [results, Tryz.results56, go_sem, z0, z1, z2, z3]) rfl ⟨rfl, hX.set4 hgl (Nat.le_refl _) _ _ _ _⟩
    | some t =>
      rw [ht] at cP
      dsimp only at cP
      obtain ⟨hpl, -⟩ := List.getElem?_eq_some_iff.1 ht
      have hsm := h.small t (List.mem_of_getElem? ht)
      have hbp : (burnD s).pos < ts.length := by rw [burn_pos]; exact hpl
      cases hp : (wdB m) t with
      | false =>
        have e1 : takeT ts (wdB m) s = (Tk.zero, failD 2 (burnD s)) := by unfold takeT; rw [if_neg (by simp [he]), ht]; dsimp only; rw [hp, ef]; rfl
        rw [e1]
        have cC := fun W (hb : Blk W b 9 #[.string m]) => clword_any t m b W hb
        rw [hp] at cC
        try dsimp only at cP ⊢
        generalize failD 2 (burnD s) = q at *
        generalize burnD s = b0 at *
        obtain ⟨tk, tx, tn, ta⟩ := t
        try dsimp only at cP cC ⊢
        clear e1 ef ht hpk he h hp hsm
        go_enter Tryz.func56, Tryz.ntmps56
        go_wp2_with (first
          | (go_at_call 59; (with_reducible refine cB.mono ?_); rintro e w1 ⟨rfl, hm1⟩)
          | (go_at_call 77; (with_reducible refine (cP _ hm1).mono ?_); rintro e w2 ⟨rfl, hb2⟩
             have hB5 := Blk.new w2 73 (tkC tk tx tn ta)
             have hG2 := Gr.alloc w2 (.cells (tkC tk tx tn ta) 73)
             obtain ⟨y0, y1, y2, y3, -⟩ := tk_cells hB5)
          | (go_at_call 57; (with_reducible refine (cC _ (((hb.below hGA hb.lt).x (hm1.gr hb2).2 hbg).below hG2 (Nat.lt_of_lt_of_le (Nat.lt_of_lt_of_le hb.lt hGA.size) (hm1.gr hb2).2.size))).mono ?_); rintro e w4 ⟨rfl, hb4⟩
             have hm4 := ((hm1.gr hb2).gr hG2).gr hb4)
          | (go_at_call 60; (with_reducible refine (cF _ hm4.1).mono ?_); rintro e w3 ⟨⟨v3, rfl⟩, hm3⟩
             have hX : MadeR ts L E w g q w3 := ⟨hm3.1, GrX.tr (GrX.of_gr hGA g) (GrX.tr hm4.2 hm3.2)⟩
             have hBr : Blk w3 w.heap.size 73 (tkC 0 ⟨#[]⟩ 0 0) := (hB0.x hm4.2 (by omega)).x hm3.2 (by omega)
             obtain ⟨r0, r1, r2, r3, q0, q1, q2, q3⟩ := tk_cells hBr))
        obtain ⟨z0, z1, z2, z3, -⟩ := tk_cells (hBr.tk4 (y0 := .int .i64 0) (y1 := .string ⟨#[]⟩) (y2 := .int .i64 0) (y3 := .int .i64 0))
        exact bodyPost_ret (v := tkV Tk.zero) (by simp [results, Tryz.results56, go_sem, z0, z1, z2, z3]) rfl ⟨rfl, hX.set4 hgl (Nat.le_refl _) _ _ _ _⟩
      | true =>
        have e1 : takeT ts (wdB m) s = (t, { burnD s with pos := s.pos + 1 }) := by unfold takeT; rw [if_neg (by simp [he]), ht]; dsimp only; rw [hp]; rfl
        rw [e1]
        rw [show s.pos = (burnD s).pos from (burn_pos s).symm] at e1 ⊢
        have cC := fun W (hb : Blk W b 9 #[.string m]) => clword_any t m b W hb
        rw [hp] at cC
        try dsimp only at cP ⊢
        have hlen := h.len
        generalize burnD s = b0 at *
        obtain ⟨tk, tx, tn, ta⟩ := t
        try dsimp only at cP cC ⊢
        clear e1 ef ht hpk he h hp hsm cF
        go_enter Tryz.func56, Tryz.ntmps56
        go_wp2_with (first
          | (go_at_call 59; (with_reducible refine cB.mono ?_); rintro e w1 ⟨rfl, hm1⟩)
          | (go_at_call 77; (with_reducible refine (cP _ hm1).mono ?_); rintro e w2 ⟨rfl, hb2⟩
             have hB5 := Blk.new w2 73 (tkC tk tx tn ta)
             have hG2 := Gr.alloc w2 (.cells (tkC tk tx tn ta) 73)
             obtain ⟨y0, y1, y2, y3, -⟩ := tk_cells hB5)
          | (go_at_call 57; (with_reducible refine (cC _ (((hb.below hGA hb.lt).x (hm1.gr hb2).2 hbg).below hG2 (Nat.lt_of_lt_of_le (Nat.lt_of_lt_of_le hb.lt hGA.size) (hm1.gr hb2).2.size))).mono ?_); rintro e w4 ⟨rfl, hb4⟩
             have hm4 := ((hm1.gr hb2).gr hG2).gr hb4
             obtain ⟨k0, k1, k2, k3, k4, f1, f3, f4⟩ := hm4.1.cells
             obtain ⟨hE5, hx5⟩ := hm4.1.setP hbp
             have hX : MadeR ts L E w g { b0 with pos := b0.pos + 1 } (w4.setCell ⟨g, 1, none⟩ (.int .i64 ((b0.pos : Int) + 1))) := ⟨hE5, GrX.tr (GrX.of_gr hGA g) (GrX.tr hm4.2 hx5)⟩
             have hBr : Blk (w4.setCell ⟨g, 1, none⟩ (.int .i64 ((b0.pos : Int) + 1))) w.heap.size 73 (tkC 0 ⟨#[]⟩ 0 0) := (hB0.x hm4.2 (by omega)).x hx5 (by omega)
             have hw2 : g < w2.heap.size := by have := (hm1.gr hb2).1.lt; omega
             have hBt : Blk (w4.setCell ⟨g, 1, none⟩ (.int .i64 ((b0.pos : Int) + 1))) w2.heap.size 73 (tkC tk tx tn ta) := (hB5.below hb4 hB5.lt).x hx5 (by omega)
             obtain ⟨r0, r1, r2, r3, q0, q1, q2, q3⟩ := tk_cells hBr
             obtain ⟨t0, t1, t2, t3, -⟩ := tk_cells hBt))
        obtain ⟨z0, z1, z2, z3, -⟩ := tk_cells (hBr.tk4 (y0 := .int .i64 tk) (y1 := .string tx) (y2 := .int .i64 tn) (y3 := .int .i64 ta))
        exact bodyPost_ret (v := tkV ⟨tk, tx, tn, ta⟩) (by simp [results, Tryz.results56, go_sem, z0, z1, z2, z3]) rfl ⟨rfl, hX.set4 hgl (Nat.le_refl _) _ _ _ _⟩
  · have cB := pburn_no hA he
    have e1 : takeT ts (wdB m) s = (Tk.zero, burnD s) := by unfold takeT; rw [if_pos he]
    rw [e1]
    generalize burnD s = b0 at *
    clear e1 h
    go_enter Tryz.func56, Tryz.ntmps56
    go_wp2_with (go_at_call 59; (with_reducible refine cB.mono ?_); rintro e w1 ⟨rfl, hm1⟩
                 have hX : MadeR ts L E w g b0 w1 := ⟨hm1.1, GrX.tr (GrX.of_gr hGA g) hm1.2⟩
                 have hBr : Blk w1 w.heap.size 73 (tkC 0 ⟨#[]⟩ 0 0) := hB0.x hm1.2 (by omega)
                 obtain ⟨r0, r1, r2, r3, q0, q1, q2, q3⟩ := tk_cells hBr)
    obtain ⟨z0, z1, z2, z3, -⟩ := tk_cells (hBr.tk4 (y0 := .int .i64 0) (y1 := .string ⟨#[]⟩) (y2 := .int .i64 0) (y3 := .int .i64 0))
    exact bodyPost_ret (v := tkV Tk.zero) (by simp [results, Tryz.results56, go_sem, z0, z1, z2, z3]) rfl ⟨rfl, hX.set4 hgl (Nat.le_refl _) _ _ _ _⟩
set_option maxRecDepth 100000 in
set_option maxHeartbeats 2000000 in
theorem ptake_mile (h : Env ts L E w g s) : Calls Tryz.prog 56 #[.pointer (some ⟨g, 0, none⟩), .func (.func 92) #[] #[]] w fun e w' => e = .returned (tkV (takeT ts mileB s).1) ∧ MadeR ts L E w g (takeT ts mileB s).2 w' := by
  have hgl := h.lt
  have hB0 := Blk.new w 73 (tkC 0 ⟨#[]⟩ 0 0)
  have hGA := Gr.alloc w (.cells (tkC 0 ⟨#[]⟩ 0 0) 73)
  have hA := h.gr hGA
  by_cases he : (burnD s).err = 0
  · have cB := pburn_yes hA he
    have hpk := peek_burn s he ts
    have cP := fun W (hm : MadeR ts L E (w.alloc (.cells (tkC 0 ⟨#[]⟩ 0 0) 73)) g (burnD s) W) => ppeek_any hm.1
    have cF := fun W (hm : Env ts L E W g (burnD s)) => pfail_any hm 2
    have ef : failD 2 (burnD s) = { burnD s with err := 2 } := by unfold failD; rw [if_pos he]
    rw [hpk] at cP
    cases ht : ts[s.pos]? with
    | none =>
      have e1 : takeT ts mileB s = (Tk.zero, failD 2 (burnD s)) := by unfold takeT; rw [if_neg (by simp [he]), ht, ef]
      rw [e1]
      rw [ht] at cP
      dsimp only at cP ⊢
      generalize failD 2 (burnD s) = q at *
      generalize burnD s = b0 at *
      clear e1 ef ht hpk he h
      go_enter Tryz.func56, Tryz.ntmps56
      go_wp2_with (first
        | (go_at_call 59; (with_reducible refine cB.mono ?_); rintro e w1 ⟨rfl, hm1⟩)
        | (go_at_call 77; go_loud ((with_reducible refine (cP _ hm1).mono ?_); rintro e w2 ⟨rfl, hb2⟩)
           have hG2 := Gr.alloc w2 (.cells (tkC 0 ⟨#[]⟩ 0 0) 73))
        | (go_at_call 60; go_loud ((with_reducible refine (cF _ ((hm1.gr hb2).gr hG2).1).mono ?_); rintro e w3 ⟨⟨v3, rfl⟩, hm3⟩)
           have hX : MadeR ts L E w g q w3 := ⟨hm3.1, GrX.tr (GrX.of_gr hGA g) (GrX.tr ((hm1.gr hb2).gr hG2).2 hm3.2)⟩
           have hBr : Blk w3 w.heap.size 73 (tkC 0 ⟨#[]⟩ 0 0) := (((hB0.x hm1.2 (by omega)).x (GrX.of_gr (Gr.trans hb2 hG2) g) (by omega)).x hm3.2 (by omega))
           obtain ⟨r0, r1, r2, r3, q0, q1, q2, q3⟩ := tk_cells hBr))
      obtain ⟨z0, z1, z2, z3, -⟩ := tk_cells (hBr.tk4 (y0 := .int .i64 0) (y1 := .string ⟨#[]⟩) (y2 := .int .i64 0) (y3 := .int .i64 0))
      exact bodyPost_ret (v := tkV Tk.zero) (by simp [results, Tryz.results56, go_sem, z0, z1, z2, z3]) rfl ⟨rfl, hX.set4 hgl (Nat.le_refl _) _ _ _ _⟩
    | some t =>
      rw [ht] at cP
      dsimp only at cP
      obtain ⟨hpl, -⟩ := List.getElem?_eq_some_iff.1 ht
      have hsm := h.small t (List.mem_of_getElem? ht)
      have hbp : (burnD s).pos < ts.length := by rw [burn_pos]; exact hpl
      cases hp : mileB t with
      | false =>
        have e1 : takeT ts mileB s = (Tk.zero, failD 2 (burnD s)) := by unfold takeT; rw [if_neg (by simp [he]), ht]; dsimp only; rw [hp, ef]; rfl
        rw [e1]
        have cC := fun W (_ : True) => clmile_any t W hsm
        rw [hp] at cC
        try dsimp only at cP ⊢
        generalize failD 2 (burnD s) = q at *
        generalize burnD s = b0 at *
        obtain ⟨tk, tx, tn, ta⟩ := t
        try dsimp only at cP cC ⊢
        clear e1 ef ht hpk he h hp hsm
        go_enter Tryz.func56, Tryz.ntmps56
        go_wp2_with (first
          | (go_at_call 59; (with_reducible refine cB.mono ?_); rintro e w1 ⟨rfl, hm1⟩)
          | (go_at_call 77; (with_reducible refine (cP _ hm1).mono ?_); rintro e w2 ⟨rfl, hb2⟩
             have hB5 := Blk.new w2 73 (tkC tk tx tn ta)
             have hG2 := Gr.alloc w2 (.cells (tkC tk tx tn ta) 73)
             obtain ⟨y0, y1, y2, y3, -⟩ := tk_cells hB5)
          | (go_at_call 92; (with_reducible refine (cC _ trivial).mono ?_); rintro e w4 ⟨rfl, hb4⟩
             have hm4 := ((hm1.gr hb2).gr hG2).gr hb4)
          | (go_at_call 60; (with_reducible refine (cF _ hm4.1).mono ?_); rintro e w3 ⟨⟨v3, rfl⟩, hm3⟩
             have hX : MadeR ts L E w g q w3 := ⟨hm3.1, GrX.tr (GrX.of_gr hGA g) (GrX.tr hm4.2 hm3.2)⟩
             have hBr : Blk w3 w.heap.size 73 (tkC 0 ⟨#[]⟩ 0 0) := (hB0.x hm4.2 (by omega)).x hm3.2 (by omega)
             obtain ⟨r0, r1, r2, r3, q0, q1, q2, q3⟩ := tk_cells hBr))
        obtain ⟨z0, z1, z2, z3, -⟩ := tk_cells (hBr.tk4 (y0 := .int .i64 0) (y1 := .string ⟨#[]⟩) (y2 := .int .i64 0) (y3 := .int .i64 0))
        exact bodyPost_ret (v := tkV Tk.zero) (by simp [results, Tryz.results56, go_sem, z0, z1, z2, z3]) rfl ⟨rfl, hX.set4 hgl (Nat.le_refl _) _ _ _ _⟩
      | true =>
        have e1 : takeT ts mileB s = (t, { burnD s with pos := s.pos + 1 }) := by unfold takeT; rw [if_neg (by simp [he]), ht]; dsimp only; rw [hp]; rfl
        rw [e1]
        rw [show s.pos = (burnD s).pos from (burn_pos s).symm] at e1 ⊢
        have cC := fun W (_ : True) => clmile_any t W hsm
        rw [hp] at cC
        try dsimp only at cP ⊢
        have hlen := h.len
        generalize burnD s = b0 at *
        obtain ⟨tk, tx, tn, ta⟩ := t
        try dsimp only at cP cC ⊢
        clear e1 ef ht hpk he h hp hsm cF
        go_enter Tryz.func56, Tryz.ntmps56
        go_wp2_with (first
          | (go_at_call 59; (with_reducible refine cB.mono ?_); rintro e w1 ⟨rfl, hm1⟩)
          | (go_at_call 77; (with_reducible refine (cP _ hm1).mono ?_); rintro e w2 ⟨rfl, hb2⟩
             have hB5 := Blk.new w2 73 (tkC tk tx tn ta)
             have hG2 := Gr.alloc w2 (.cells (tkC tk tx tn ta) 73)
             obtain ⟨y0, y1, y2, y3, -⟩ := tk_cells hB5)
          | (go_at_call 92; (with_reducible refine (cC _ trivial).mono ?_); rintro e w4 ⟨rfl, hb4⟩
             have hm4 := ((hm1.gr hb2).gr hG2).gr hb4
             obtain ⟨k0, k1, k2, k3, k4, f1, f3, f4⟩ := hm4.1.cells
             obtain ⟨hE5, hx5⟩ := hm4.1.setP hbp
             have hX : MadeR ts L E w g { b0 with pos := b0.pos + 1 } (w4.setCell ⟨g, 1, none⟩ (.int .i64 ((b0.pos : Int) + 1))) := ⟨hE5, GrX.tr (GrX.of_gr hGA g) (GrX.tr hm4.2 hx5)⟩
             have hBr : Blk (w4.setCell ⟨g, 1, none⟩ (.int .i64 ((b0.pos : Int) + 1))) w.heap.size 73 (tkC 0 ⟨#[]⟩ 0 0) := (hB0.x hm4.2 (by omega)).x hx5 (by omega)
             have hw2 : g < w2.heap.size := by have := (hm1.gr hb2).1.lt; omega
             have hBt : Blk (w4.setCell ⟨g, 1, none⟩ (.int .i64 ((b0.pos : Int) + 1))) w2.heap.size 73 (tkC tk tx tn ta) := (hB5.below hb4 hB5.lt).x hx5 (by omega)
             obtain ⟨r0, r1, r2, r3, q0, q1, q2, q3⟩ := tk_cells hBr
             obtain ⟨t0, t1, t2, t3, -⟩ := tk_cells hBt))
        obtain ⟨z0, z1, z2, z3, -⟩ := tk_cells (hBr.tk4 (y0 := .int .i64 tk) (y1 := .string tx) (y2 := .int .i64 tn) (y3 := .int .i64 ta))
        exact bodyPost_ret (v := tkV ⟨tk, tx, tn, ta⟩) (by simp [results, Tryz.results56, go_sem, z0, z1, z2, z3]) rfl ⟨rfl, hX.set4 hgl (Nat.le_refl _) _ _ _ _⟩
  · have cB := pburn_no hA he
    have e1 : takeT ts mileB s = (Tk.zero, burnD s) := by unfold takeT; rw [if_pos he]
    rw [e1]
    generalize burnD s = b0 at *
    clear e1 h
    go_enter Tryz.func56, Tryz.ntmps56
    go_wp2_with (go_at_call 59; (with_reducible refine cB.mono ?_); rintro e w1 ⟨rfl, hm1⟩
                 have hX : MadeR ts L E w g b0 w1 := ⟨hm1.1, GrX.tr (GrX.of_gr hGA g) hm1.2⟩
                 have hBr : Blk w1 w.heap.size 73 (tkC 0 ⟨#[]⟩ 0 0) := hB0.x hm1.2 (by omega)
                 obtain ⟨r0, r1, r2, r3, q0, q1, q2, q3⟩ := tk_cells hBr)
    obtain ⟨z0, z1, z2, z3, -⟩ := tk_cells (hBr.tk4 (y0 := .int .i64 0) (y1 := .string ⟨#[]⟩) (y2 := .int .i64 0) (y3 := .int .i64 0))
    exact bodyPost_ret (v := tkV Tk.zero) (by simp [results, Tryz.results56, go_sem, z0, z1, z2, z3]) rfl ⟨rfl, hX.set4 hgl (Nat.le_refl _) _ _ _ _⟩

set_option maxRecDepth 100000 in
set_option maxHeartbeats 1000000 in
theorem pkind_any (k : Int) (h : Env ts L E w g s) : Calls Tryz.prog 39 #[.pointer (some ⟨g, 0, none⟩), .int .i64 k] w fun e w' => e = .returned (tkV (takeT ts (kindB k) s).1) ∧ MadeR ts L E w g (takeT ts (kindB k) s).2 w' := by
  have hgl := h.lt
  have hGA := Gr.trans (Gr.alloc w (.cells #[.int .i64 k] 3)) (Gr.alloc _ (.cells (tkC 0 ⟨#[]⟩ 0 0) 73))
  have hBk := (Blk.new w 3 #[.int .i64 k]).alloc (.cells (tkC 0 ⟨#[]⟩ 0 0) 73)
  have hB0 : Blk ((w.alloc (.cells #[.int .i64 k] 3)).alloc (.cells (tkC 0 ⟨#[]⟩ 0 0) 73)) (w.heap.size + 1) 73 (tkC 0 ⟨#[]⟩ 0 0) := by
    have := Blk.new (w.alloc (.cells #[.int .i64 k] 3)) 73 (tkC 0 ⟨#[]⟩ 0 0)
    rwa [show (w.alloc (.cells #[.int .i64 k] 3)).heap.size = w.heap.size + 1 by simp] at this
  have cT := ptake_kind k w.heap.size hBk (by omega) (h.gr hGA)
  generalize takeT ts (kindB k) s = o at *
  obtain ⟨⟨tk, tx, tn, ta⟩, q⟩ := o
  dsimp only at cT ⊢
  go_enter Tryz.func39, Tryz.ntmps39
  go_wp2_with (go_at_call 56; (with_reducible refine cT.mono ?_); rintro e w1 ⟨rfl, hm1⟩
               have hX : MadeR ts L E w g q w1 := ⟨hm1.1, GrX.tr (GrX.of_gr hGA g) hm1.2⟩
               have hBr : Blk w1 (w.heap.size + 1) 73 (tkC 0 ⟨#[]⟩ 0 0) := hB0.x hm1.2 (by omega)
               obtain ⟨r0, r1, r2, r3, q0, q1, q2, q3⟩ := tk_cells hBr)
  obtain ⟨z0, z1, z2, z3, -⟩ := tk_cells (hBr.tk4 (y0 := .int .i64 tk) (y1 := .string tx) (y2 := .int .i64 tn) (y3 := .int .i64 ta))
  exact bodyPost_ret (v := tkV ⟨tk, tx, tn, ta⟩) (by simp [results, Tryz.results39, go_sem, z0, z1, z2, z3]) rfl ⟨rfl, hX.set4 hgl (Nat.le_succ _) _ _ _ _⟩
set_option maxRecDepth 100000 in
theorem pword_any (m : ByteArray) (h : Env ts L E w g s) : Calls Tryz.prog 36 #[.pointer (some ⟨g, 0, none⟩), .string m] w fun e w' => (∃ v, e = .returned v) ∧ MadeR ts L E w g (takeT ts (wdB m) s).2 w' := by
  have hgl := h.lt
  have hGA := Gr.alloc w (.cells #[.string m] 9)
  have cT := ptake_word m w.heap.size (Blk.new w 9 #[.string m]) (by omega) (h.gr hGA)
  generalize takeT ts (wdB m) s = o at *
  obtain ⟨⟨tk, tx, tn, ta⟩, q⟩ := o
  dsimp only at cT ⊢
  go_enter Tryz.func36, Tryz.ntmps36
  go_wp2_with (go_at_call 56; (with_reducible refine cT.mono ?_); rintro e w1 ⟨rfl, hm1⟩)
  go_end0
  exact ⟨⟨_, rfl⟩, hm1.1, GrX.tr (GrX.of_gr hGA g) hm1.2⟩
theorem isT_peek (ts : List Tk) (p : Tk → Bool) (s : Pst) : isT ts p s = ((peekD ts s).2 && p (peekD ts s).1) := by
  unfold isT peekD
  by_cases he : s.err = 0
  · rw [decide_eq_true he, if_pos he]
    cases ts[s.pos]? <;> rfl
  · rw [decide_eq_false he, if_neg he]
    rfl
set_option maxRecDepth 100000 in
set_option maxHeartbeats 1000000 in
theorem pahead_any (m : ByteArray) (h : Env ts L E w g s) : Calls Tryz.prog 55 #[.pointer (some ⟨g, 0, none⟩), .string m] w fun e w' => e = .returned (.bool (isT ts (wdB m) s)) ∧ Gr w w' := by
  have cP := ppeek_any h
  rw [isT_peek]
  have cI := fun W => isword_any (peekD ts s).1 m W
  generalize wdB m (peekD ts s).1 = q at *
  generalize peekD ts s = o at *
  obtain ⟨⟨tk, tx, tn, ta⟩, b⟩ := o
  dsimp only at *
  clear h
  cases b
  all_goals
    go_enter Tryz.func55, Tryz.ntmps55
    go_wp2_with (first
      | (go_at_call 77; (with_reducible refine cP.mono ?_); rintro e w2 ⟨rfl, hb2⟩
         have hB5 := Blk.new w2 73 (tkC tk tx tn ta)
         have hG2 := Gr.trans hb2 (Gr.alloc w2 (.cells (tkC tk tx tn ta) 73))
         obtain ⟨y0, y1, y2, y3, -⟩ := tk_cells hB5)
      | (go_at_call 58; (with_reducible refine (cI _).mono ?_); rintro e w3 ⟨rfl, hb3⟩))
    go_ret
    first | exact ⟨rfl, hG2⟩ | exact ⟨rfl, Gr.trans hG2 hb3⟩
end
end Go.Proofs.YtogpmihepfnoaaaGreatDoor

namespace Go.Proofs.YtogpmihepfnoaaaGreatDoor
open Go Go.RowKit Go.Sort

theorem orow_x {w w' : World} {base e size n g : Nat} {v : Value} {xs : List Value} (h : w.ownsRow base e size v n xs) (hx : GrX w w' g) (hn : g < base) : w'.ownsRow base e size v n xs := by
  refine ⟨h.1, ?_⟩
  rcases h.2 with h0 | ⟨g', cap, cur, e1, e2, e3, e4⟩
  · exact .inl h0
  · refine .inr ⟨g', cap, cur, e1, e2, ?_, e4⟩
    have hlt : g' < w.heap.size := (Array.getElem?_eq_some_iff.1 e3).1
    rw [hx.block g' hlt (by intro e; injection e with e; omega)]
    exact e3
theorem RdExL.snoc {w : World} {K : Nat → Prop} {x : Ex} {v0 v1 v2 v3 : Value} (hx : RdEx w K x (.agg #[v0, v1, v2, v3])) : ∀ (ks : List Ex) (vs : List Value), RdExL w K ks vs → RdExL w K (ks ++ [x]) (vs ++ [v0, v1, v2, v3])
  | [], vs, h => by
    rw [RdExL] at h
    subst h
    rw [List.nil_append, RdExL]
    exact ⟨v0, v1, v2, v3, [], rfl, hx, by rw [RdExL]⟩
  | k :: ks, vs, h => by
    rw [RdExL] at h
    obtain ⟨u0, u1, u2, u3, r, rfl, hk, hl⟩ := h
    rw [List.cons_append, RdExL]
    exact ⟨u0, u1, u2, u3, _, rfl, hk, RdExL.snoc hx ks r hl⟩
theorem RdRuL.snoc {w : World} {K : Nat → Prop} {x : Ru} {v0 v1 v2 v3 : Value} (hs : x.cls.size ≤ 140737488351232) (hx : RdEx w K x.wh (.agg #[v0, v1, v2, v3])) : ∀ (ks : List Ru) (vs : List Value), RdRuL w K ks vs → RdRuL w K (ks ++ [x]) (vs ++ [.string x.cls, v0, v1, v2, v3, .int .i64 x.act])
  | [], vs, h => by
    obtain rfl := h
    exact ⟨v0, v1, v2, v3, [], rfl, hs, hx, rfl⟩
  | k :: ks, vs, h => by
    obtain ⟨u0, u1, u2, u3, r, rfl, h1, hk, hl⟩ := h
    exact ⟨u0, u1, u2, u3, _, rfl, h1, hk, RdRuL.snoc hs hx ks r hl⟩
/-- Conditions that grow: a row of the call's own, what they lead to in other blocks of the call's own. -/
structure XsOwn (base : Nat) (w : World) (v : Value) (l : List Ex) (cs : List Value) : Prop where
  row : w.ownsRow base 45 4 v l.length cs
  mem : RdExL w (fun b => base ≤ b ∧ b < w.heap.size ∧ v.ownBlock ≠ some b) l cs
structure RsOwn (base : Nat) (w : World) (v : Value) (l : List Ru) (cs : List Value) : Prop where
  row : w.ownsRow base 47 6 v l.length cs
  mem : RdRuL w (fun b => base ≤ b ∧ b < w.heap.size ∧ v.ownBlock ≠ some b) l cs
theorem XsOwn.nil (base : Nat) (w : World) : XsOwn base w (.slice none 0 0) [] [] := ⟨⟨rfl, .inl ⟨rfl, rfl⟩⟩, by rw [RdExL]⟩
theorem RsOwn.nil (base : Nat) (w : World) : RsOwn base w (.slice none 0 0) [] [] := ⟨⟨rfl, .inl ⟨rfl, rfl⟩⟩, rfl⟩
theorem XsOwn.x {base g : Nat} {w w' : World} {v : Value} {l : List Ex} {cs : List Value} (h : XsOwn base w v l cs) (hx : GrX w w' g) (hn : g < base) : XsOwn base w' v l cs :=
  ⟨orow_x h.row hx hn, RdExL.mono (fun _ hb => ⟨hb.1, Nat.lt_of_lt_of_le hb.2.1 hx.size, hb.2.2⟩) _ _ (RdExL.keep (fun _ hp => World.cell?_of_block (hx.block _ hp.2.1 (by intro e; injection e with e; have := hp.1; omega))) _ _ h.mem)⟩
theorem RsOwn.x {base g : Nat} {w w' : World} {v : Value} {l : List Ru} {cs : List Value} (h : RsOwn base w v l cs) (hx : GrX w w' g) (hn : g < base) : RsOwn base w' v l cs :=
  ⟨orow_x h.row hx hn, RdRuL.mono (fun _ hb => ⟨hb.1, Nat.lt_of_lt_of_le hb.2.1 hx.size, hb.2.2⟩) _ _ (RdRuL.keep (fun _ hp => World.cell?_of_block (hx.block _ hp.2.1 (by intro e; injection e with e; have := hp.1; omega))) _ _ h.mem)⟩
theorem XsOwn.gr {base : Nat} {w w' : World} {v : Value} {l : List Ex} {cs : List Value} (h : XsOwn base w v l cs) (hx : Gr w w') : XsOwn base w' v l cs :=
  ⟨ownsRow_gr h.row hx, RdExL.mono (fun _ hb => ⟨hb.1, Nat.lt_of_lt_of_le hb.2.1 hx.size, hb.2.2⟩) _ _ (RdExL.keep (fun _ hp => hx.cell hp.2.1) _ _ h.mem)⟩
theorem RsOwn.gr {base : Nat} {w w' : World} {v : Value} {l : List Ru} {cs : List Value} (h : RsOwn base w v l cs) (hx : Gr w w') : RsOwn base w' v l cs :=
  ⟨ownsRow_gr h.row hx, RdRuL.mono (fun _ hb => ⟨hb.1, Nat.lt_of_lt_of_le hb.2.1 hx.size, hb.2.2⟩) _ _ (RdRuL.keep (fun _ hp => hx.cell hp.2.1) _ _ h.mem)⟩
theorem exO_info : (Tryz.prog.info? 45).map (fun i => (i.zero, i.size, i.bytes)) = some (some (.agg #[.int .i64 0, .int .i64 0, .string ⟨#[]⟩, .slice none 0 0]), 4, 56) := by kernel_rfl
theorem ruO_info : (Tryz.prog.info? 47).map (fun i => (i.zero, i.size, i.bytes)) = some (some (.agg #[.string ⟨#[]⟩, .int .i64 0, .int .i64 0, .string ⟨#[]⟩, .slice none 0 0, .int .i64 0]), 6, 80) := by kernel_rfl
theorem own_ret {w w' : World} {base : Nat} {v v' : Value} (hg : w.grownBy w' v.ownBlock) (hat : v'.ownBlock = v.ownBlock ∨ v'.ownBlock = some w.heap.size) (b : Nat) (hb : base ≤ b ∧ b < w.heap.size ∧ v.ownBlock ≠ some b) : base ≤ b ∧ b < w'.heap.size ∧ v'.ownBlock ≠ some b := by
  refine ⟨hb.1, Nat.lt_of_lt_of_le hb.2.1 hg.size, ?_⟩
  rcases hat with e | e
  · rw [e]; exact hb.2.2
  · rw [e]; intro e2; injection e2 with e2; omega
theorem own_gr {w w' : World} {base e size n : Nat} {v : Value} {xs : List Value} (h : w.ownsRow base e size v n xs) (hbase : base ≤ w.heap.size) (hg : w.grownBy w' v.ownBlock) : Below base w w' := by
  refine (Below.refl base w).grown hg hbase fun k hk => ?_
  rcases h.2 with ⟨rfl, _⟩ | ⟨g, cap, cur, rfl, e2, _⟩
  · simp [Value.ownBlock] at hk
  · simp [Value.ownBlock] at hk
    omega
theorem rd_blk1 {w : World} {gb size : Nat} {T : TypeId} {ar : Array Value} (hB : Blk w gb T ar) (hs : ar.size = size) : Reads w w.heap.size size (some ⟨gb, 0, none⟩) 1 ar.toList := by
  refine ⟨by simp [hs], fun _ => ⟨_, rfl, hB.lt, fun j u hu => ?_⟩⟩
  have e : (⟨gb, 0, none⟩ : Addr).add j = ⟨gb, j, none⟩ := by
    unfold Addr.add
    split
    · rename_i h0; simp_all
    · simp
  rw [e, hB.cell j, ← Array.getElem?_toList, hu]
/-- A condition is appended. -/
theorem wpList_appendX {ops : Array Oper} {rest : List Oper} {o : Oper} {a : Act} {Q : Exit → Act → World → Prop} (w : World) (hgd : o.guard = none) (s y : Operand)
    (ho : o.op = .call { callee := .builtin .append, args := #[s, y], argTypes := #[43, 43] }) (base : Nat) (v : Value) (l : List Ex) (cs : List Value) (hs : a.eval s = v) (hown : XsOwn base w v l cs)
    (x : Ex) (o_ d_ : Int) (m_ : ByteArray) (A_ : Option Addr) (n_ c_ : Nat) (gb : Nat) (hx : a.eval y = .slice (some ⟨gb, 0, none⟩) 1 1) (hB : Blk w gb 45 #[.int .i64 o_, .int .i64 d_, .string m_, .slice A_ n_ c_]) (hr : RdEx w (fun b => base ≤ b ∧ b < w.heap.size ∧ v.ownBlock ≠ some b) x (.agg #[.int .i64 o_, .int .i64 d_, .string m_, .slice A_ n_ c_])) (hlen : l.length ≤ 100000) (hbase : base ≤ w.heap.size)
    (h : ∀ v' w', XsOwn base w' v' (l ++ [x]) (cs ++ [.int .i64 o_, .int .i64 d_, .string m_, .slice A_ n_ c_]) → Below base w w' → wpList Tryz.prog ops Q rest (a.put o.dst v') w') : wpList Tryz.prog ops Q (o :: rest) a w := by
  have hu := exO_info
  cases hi : Tryz.prog.info? 45 with
  | none => rw [hi] at hu; cases hu
  | some i =>
    rw [hi] at hu
    simp only [Option.map_some, Option.some.injEq, Prod.mk.injEq] at hu
    obtain ⟨hz, hsz, hb⟩ := hu
    refine wpList_append_any (P := Tryz.prog) w hgd s y 43 ho base 45 i _ 4 56 (by kernel_rfl) hi hz hsz hb rfl (by omega) v l.length cs hs hown.row w.heap.size _ 1 1 _ hx (rd_blk1 hB rfl) ?_ (by unfold maxLen; omega) (by omega) hbase ?_
    · intro u hu
      simp only [List.mem_cons, List.not_mem_nil, or_false] at hu
      rcases hu with rfl | rfl | rfl | rfl <;> rfl
    intro v' w' hown' hg hat
    refine h v' w' ⟨by rw [List.length_append]; exact hown', ?_⟩ (own_gr hown.row hbase hg)
    have hk : ∀ p : Addr, (base ≤ p.block ∧ p.block < w.heap.size ∧ v.ownBlock ≠ some p.block) → w'.cell? p = w.cell? p := fun p hp => World.cell?_of_block (hg.block p.block hp.2.1 (fun e => hp.2.2 e.symm))
    exact RdExL.mono (own_ret hg hat) _ _ (RdExL.keep hk _ _ (RdExL.snoc hr l cs hown.mem))
/-- A rule is appended. -/
theorem wpList_appendR {ops : Array Oper} {rest : List Oper} {o : Oper} {a : Act} {Q : Exit → Act → World → Prop} (w : World) (hgd : o.guard = none) (s y : Operand)
    (ho : o.op = .call { callee := .builtin .append, args := #[s, y], argTypes := #[23, 23] }) (base : Nat) (v : Value) (l : List Ru) (cs : List Value) (hs : a.eval s = v) (hown : RsOwn base w v l cs)
    (x : Ru) (o_ d_ : Int) (m_ : ByteArray) (A_ : Option Addr) (n_ c_ : Nat) (gb : Nat) (hx : a.eval y = .slice (some ⟨gb, 0, none⟩) 1 1) (hB : Blk w gb 47 #[.string x.cls, .int .i64 o_, .int .i64 d_, .string m_, .slice A_ n_ c_, .int .i64 x.act]) (hsz : x.cls.size ≤ 140737488351232) (hr : RdEx w (fun b => base ≤ b ∧ b < w.heap.size ∧ v.ownBlock ≠ some b) x.wh (.agg #[.int .i64 o_, .int .i64 d_, .string m_, .slice A_ n_ c_])) (hlen : l.length ≤ 100000) (hbase : base ≤ w.heap.size)
    (h : ∀ v' w', RsOwn base w' v' (l ++ [x]) (cs ++ [.string x.cls, .int .i64 o_, .int .i64 d_, .string m_, .slice A_ n_ c_, .int .i64 x.act]) → Below base w w' → wpList Tryz.prog ops Q rest (a.put o.dst v') w') : wpList Tryz.prog ops Q (o :: rest) a w := by
  have hu := ruO_info
  cases hi : Tryz.prog.info? 47 with
  | none => rw [hi] at hu; cases hu
  | some i =>
    rw [hi] at hu
    simp only [Option.map_some, Option.some.injEq, Prod.mk.injEq] at hu
    obtain ⟨hz, hsz2, hb⟩ := hu
    refine wpList_append_any (P := Tryz.prog) w hgd s y 23 ho base 47 i _ 6 80 (by kernel_rfl) hi hz hsz2 hb rfl (by omega) v l.length cs hs hown.row w.heap.size _ 1 1 _ hx (rd_blk1 hB rfl) ?_ (by unfold maxLen; omega) (by omega) hbase ?_
    · intro u hu
      simp only [List.mem_cons, List.not_mem_nil, or_false] at hu
      rcases hu with rfl | rfl | rfl | rfl | rfl | rfl <;> rfl
    intro v' w' hown' hg hat
    refine h v' w' ⟨by rw [List.length_append]; exact hown', ?_⟩ (own_gr hown.row hbase hg)
    have hk : ∀ p : Addr, (base ≤ p.block ∧ p.block < w.heap.size ∧ v.ownBlock ≠ some p.block) → w'.cell? p = w.cell? p := fun p hp => World.cell?_of_block (hg.block p.block hp.2.1 (fun e => hp.2.2 e.symm))
    exact RdRuL.mono (own_ret hg hat) _ _ (RdRuL.keep hk _ _ (RdRuL.snoc hsz hr l cs hown.mem))
/-- A row made of one condition. -/
theorem XsOwn.one {base : Nat} {w : World} {gb : Nat} {x : Ex} {v0 v1 v2 v3 : Value} (hB : Blk w gb 45 #[v0, v1, v2, v3]) (hg : base ≤ gb) (hr : RdEx w (fun b => base ≤ b ∧ b < w.heap.size ∧ b ≠ gb) x (.agg #[v0, v1, v2, v3])) : XsOwn base w (.slice (some ⟨gb, 0, none⟩) 1 1) [x] [v0, v1, v2, v3] := by
  refine ⟨⟨rfl, .inr ⟨gb, 1, _, rfl, hg, hB, Nat.le_refl _, by unfold maxLen; decide, rfl, rfl⟩⟩, ?_⟩
  rw [RdExL]
  refine ⟨v0, v1, v2, v3, [], rfl, RdEx.mono (fun b hb => ⟨hb.1, hb.2.1, ?_⟩) _ _ hr, by rw [RdExL]⟩
  simp [Value.ownBlock]
  exact fun e => hb.2.2 e.symm
theorem RsOwn.rd {base : Nat} {w : World} {v : Value} {l : List Ru} {cs : List Value} (h : RsOwn base w v l cs) : RdRus w (fun b => base ≤ b ∧ b < w.heap.size) v l := by
  have hm := RdRuL.mono (K' := fun b => base ≤ b ∧ b < w.heap.size) (fun _ hb => ⟨hb.1, hb.2.1⟩) _ _ h.mem
  rcases h.row.2 with ⟨rfl, h0⟩ | ⟨g', cap, cur, rfl, e2, e3, e4, e5, e6⟩
  · have : l = [] := List.eq_nil_of_length_eq_zero h0
    subst this
    exact RdRus.nil w _
  · refine ⟨_, _, cs, rfl, ⟨e4, e5⟩, ?_, hm⟩
    have hr := Reads.of_own h.row
    refine ⟨hr.1, fun hn => ?_⟩
    obtain ⟨ad, ea, _, hc⟩ := hr.2 hn
    injection ea with ea
    subst ea
    exact ⟨_, rfl, ⟨e2, (Array.getElem?_eq_some_iff.1 e3).1⟩, hc⟩
/-- A condition of these. -/
theorem XsOwn.node {base : Nat} {w : World} {v : Value} {l : List Ex} {cs : List Value} (h : XsOwn base w v l cs) (op : Int) : ∃ A c, v = .slice A l.length c ∧ RdEx w (fun b => base ≤ b ∧ b < w.heap.size) (.mk op 0 ⟨#[]⟩ l) (.agg #[.int .i64 op, .int .i64 0, .string ⟨#[]⟩, v]) := by
  have hm := RdExL.mono (K' := fun b => base ≤ b ∧ b < w.heap.size) (fun _ hb => ⟨hb.1, hb.2.1⟩) _ _ h.mem
  rcases h.row.2 with ⟨rfl, h0⟩ | ⟨g', cap, cur, rfl, e2, e3, e4, e5, e6⟩
  · have : l = [] := List.eq_nil_of_length_eq_zero h0
    subst this
    refine ⟨none, 0, rfl, ?_⟩
    rw [RdEx]
    exact ⟨none, 0, [], rfl, ⟨Nat.le_refl _, Nat.zero_le _, by decide⟩, Rk.nil _ _ _ _, by rw [RdExL]⟩
  · refine ⟨some ⟨g', 0, none⟩, cap, rfl, ?_⟩
    rw [RdEx]
    refine ⟨_, _, cs, rfl, ⟨e4, e5, by decide⟩, ?_, hm⟩
    have hr := Reads.of_own h.row
    refine ⟨hr.1, fun hn => ?_⟩
    obtain ⟨ad, ea, _, hc⟩ := hr.2 hn
    injection ea with ea
    subst ea
    exact ⟨_, rfl, ⟨e2, (Array.getElem?_eq_some_iff.1 e3).1⟩, hc⟩
/-- The only one. -/
theorem XsOwn.sole {base : Nat} {w : World} {v : Value} {x : Ex} {cs : List Value} (h : XsOwn base w v [x] cs) : ∃ (gb c : Nat) (v0 v1 v2 v3 : Value), v = .slice (some ⟨gb, 0, none⟩) 1 c ∧ base ≤ gb ∧ gb < w.heap.size ∧ w.cell? ⟨gb, 0, none⟩ = some v0 ∧ w.cell? ⟨gb, 1, none⟩ = some v1 ∧ w.cell? ⟨gb, 2, none⟩ = some v2 ∧ w.cell? ⟨gb, 3, none⟩ = some v3 ∧ RdEx w (fun b => base ≤ b ∧ b < w.heap.size) x (.agg #[v0, v1, v2, v3]) := by
  have hm := h.mem
  rw [RdExL] at hm
  obtain ⟨v0, v1, v2, v3, r, rfl, hx, hr⟩ := hm
  rcases h.row.2 with ⟨_, h0⟩ | ⟨g', cap, cur, rfl, e2, e3, e4, e5, e6⟩
  · simp at h0
  · obtain ⟨ad, ea, hlt, hc⟩ := (Reads.of_own h.row).2 (by simp)
    injection ea with ea
    subst ea
    have hj : ∀ j u, (v0 :: v1 :: v2 :: v3 :: r)[j]? = some u → w.cell? ⟨g', j, none⟩ = some u := fun j u hu => by
      have := hc j u hu
      have e : (⟨g', 0, none⟩ : Addr).add j = ⟨g', j, none⟩ := by
        unfold Addr.add
        split
        · rename_i h0; simp_all
        · simp
      rwa [e] at this
    exact ⟨g', cap, v0, v1, v2, v3, rfl, e2, (Array.getElem?_eq_some_iff.1 e3).1, hj 0 _ rfl, hj 1 _ rfl, hj 2 _ rfl, hj 3 _ rfl, RdEx.mono (fun _ hb => ⟨hb.1, hb.2.1⟩) _ _ hx⟩
end Go.Proofs.YtogpmihepfnoaaaGreatDoor

namespace Go.Proofs.YtogpmihepfnoaaaGreatDoor
open Go Go.RowKit Go.Sort

abbrev exC (o d : Int) (m : ByteArray) (A : Option Addr) (n c : Nat) : Array Value := #[.int .i64 o, .int .i64 d, .string m, .slice A n c]
abbrev exZ : Array Value := exC 0 0 ⟨#[]⟩ none 0 0
/-- What a method that reads a condition makes. -/
def PX (ts : List Tk) (L : Value) (E : Int) (w : World) (g : Nat) (o : Ex × Pst) (e : Ending) (w' : World) : Prop :=
  ∃ (o_ d_ : Int) (m_ : ByteArray) (A_ : Option Addr) (n_ c_ : Nat) (x : Ex), e = .returned (.agg (exC o_ d_ m_ A_ n_ c_)) ∧ RdEx w' (fun b => w.heap.size ≤ b ∧ b < w'.heap.size) x (.agg (exC o_ d_ m_ A_ n_ c_)) ∧ (o.2.err = 0 → x = o.1) ∧ MadeR ts L E w g o.2 w'
theorem set4_far {W : World} {r : Nat} {p : Addr} (h : p.block ≠ r) (y0 y1 y2 y3 : Value) : (set4w W r y0 y1 y2 y3).cell? p = W.cell? p := by
  unfold set4w World.cell?
  rw [Below.heap_setCell _ _ _ _ (by simpa using h), Below.heap_setCell _ _ _ _ (by simpa using h), Below.heap_setCell _ _ _ _ (by simpa using h), Below.heap_setCell _ _ _ _ (by simpa using h)]
theorem set4_size (W : World) (r : Nat) (y0 y1 y2 y3 : Value) : (set4w W r y0 y1 y2 y3).heap.size = W.heap.size := by simp [set4w, World.setCell]
theorem RdEx.set4 {W : World} {lo r : Nat} {x : Ex} {v : Value} (h : RdEx W (fun b => lo + 1 ≤ b ∧ b < W.heap.size) x v) (hr : r = lo) (y0 y1 y2 y3 : Value) : RdEx (set4w W r y0 y1 y2 y3) (fun b => lo ≤ b ∧ b < (set4w W r y0 y1 y2 y3).heap.size) x v :=
  RdEx.mono (fun _ hb => ⟨by omega, by rw [set4_size]; exact hb.2⟩) _ _ (RdEx.keep (fun p hp => set4_far (by omega) _ _ _ _) _ _ h)
theorem exRd_form {w : World} {K : Nat → Prop} {x : Ex} {v : Value} (h : RdEx w K x v) : ∃ (o d : Int) (m : ByteArray) (A : Option Addr) (n c : Nat), v = .agg (exC o d m A n c) := by
  obtain ⟨op, days, mile, ks⟩ := x
  obtain ⟨A, c, vs, rfl, _⟩ := h.form
  exact ⟨_, _, _, _, _, _, rfl⟩
theorem rd_none (w : World) (K : Nat → Prop) : RdEx w K Ex.none_ (.agg exZ) := by
  unfold Ex.none_
  rw [RdEx]
  exact ⟨none, 0, [], rfl, ⟨Nat.le_refl _, Nat.zero_le _, by decide⟩, Rk.nil _ _ _ _, by rw [RdExL]⟩
section
variable {ts : List Tk} {L : Value} {E : Int} {w w' : World} {g : Nat} {s : Pst}
theorem MadeR.below {w1 w2 : World} {s1 : Pst} {base : Nat} (h : MadeR ts L E w g s1 w1) (hg : g < w.heap.size) (hw : w.heap.size ≤ base) (hb : Below base w1 w2) : MadeR ts L E w g s1 w2 := by
  have hgr : GrX w w2 g := ⟨hb.os.trans h.2.os, hb.tape.trans h.2.tape, hb.output.trans h.2.output, Nat.le_trans h.2.size hb.size, fun k hk hne => (hb.block k (by omega)).trans (h.2.block k hk hne)⟩
  refine ⟨⟨h.1.blk.below hb (by omega), ?_, h.1.pos, h.1.len, h.1.lo, h.1.hi, h.1.small⟩, hgr⟩
  obtain ⟨A, c, e, hc, hr⟩ := h.1.rd
  exact ⟨A, c, e, hc, hr.keep fun p hp => hb.cell (by omega)⟩
theorem MadeR.after {w1 : World} {s1 : Pst} (hG : Gr w w1) (h : MadeR ts L E w1 g s1 w') : MadeR ts L E w g s1 w' := ⟨h.1, GrX.tr (GrX.of_gr hG g) h.2⟩
def slLen : Value → Nat
  | .slice _ n _ => n
  | _ => 0
theorem own_lt_ {base e size n : Nat} {v : Value} {xs : List Value} (h : w.ownsRow base e size v n xs) (k : Nat) (hk : w.heap.size ≤ k) : v.ownBlock ≠ some k := by
  intro hk2
  rcases h.2 with ⟨rfl, _⟩ | ⟨g', cap, cur, rfl, e2, e3, _⟩
  · simp [Value.ownBlock] at hk2
  · simp [Value.ownBlock] at hk2
    subst hk2
    have := (Array.getElem?_eq_some_iff.1 e3).1
    omega
/-- Where the loop of several stands. -/
def SevTo (ts : List Tk) (L : Value) (E : Int) (one : Pst → Ex × Pst) (m : ByteArray) (R : List Ex × Pst) (w : World) (g : Nat) (v : Value) (wr : World) : Prop :=
  ∃ (ks ks' : List Ex) (cs : List Value) (s : Pst) (n : Nat) (A : Option Addr) (c : Nat), v = .slice A ks'.length c ∧ XsOwn (w.heap.size + 1) wr v ks' cs ∧ ks'.length = ks.length ∧ (s.err = 0 → ks' = ks) ∧ MadeR ts L E w g s wr ∧ Blk wr w.heap.size 45 exZ ∧
    R = sevL ts one m n ks s ∧ (s.err = 0 → ts.length < s.pos + n) ∧ 1 ≤ ks.length ∧ ks.length + n ≤ ts.length + 2
theorem aloneD_many {op : Int} {ks : List Ex} (h : ¬ ks.length = 1) : aloneD op ks = .mk op 0 ⟨#[]⟩ ks := by
  match ks, h with
  | [], _ => rfl
  | [_], h => exact absurd rfl h
  | _ :: _ :: _, _ => rfl
theorem XsOwn.vform {base : Nat} {v : Value} {l : List Ex} {cs : List Value} (h : XsOwn base w v l cs) : ∃ A c, v = .slice A l.length c := by
  rcases h.row.2 with ⟨rfl, h0⟩ | ⟨g', cap, cur, rfl, _⟩
  · exact ⟨none, 0, by rw [h0]⟩
  · exact ⟨_, _, rfl⟩
set_option maxRecDepth 100000 in
set_option maxHeartbeats 4000000 in
theorem psev_term (op : Int) (m : ByteArray) (d : Int) (one : Pst → Ex × Pst) (h1 : ∀ s, Goes s (one s).2) (cOne : ∀ (W : World) (s : Pst), Env ts L E W g s → Calls Tryz.prog 62 #[.pointer (some ⟨g, 0, none⟩), .int .i64 d] W (PX ts L E W g (one s))) (h : Env ts L E w g s) :
    Calls Tryz.prog 61 #[.pointer (some ⟨g, 0, none⟩), .int .i64 op, .string m, .func (.func 62) #[.pointer (some ⟨g, 0, none⟩)] #[], .int .i64 d] w (PX ts L E w g (sevD ts one op m s)) := by
  have hgl := h.lt
  have hlen := h.len
  have hGA := Gr.alloc w (.cells exZ 45)
  have hB0 := Blk.new w 45 exZ
  have hs1 : (w.alloc (.cells exZ 45)).heap.size = w.heap.size + 1 := by simp
  have c1 := cOne _ s (h.gr hGA)
  have HOne := Lib.hid cOne
  have H1 := Lib.hid h1
  have hfin : ∀ (W : World) (ks' : List Ex) (q : Pst) (o_ d_ : Int) (m_ : ByteArray) (A_ : Option Addr) (n_ c_ : Nat), q = (sevD ts one op m s).2 → (q.err = 0 → aloneD op ks' = (sevD ts one op m s).1) → RdEx W (fun b => w.heap.size + 1 ≤ b ∧ b < W.heap.size) (aloneD op ks') (.agg (exC o_ d_ m_ A_ n_ c_)) → MadeR ts L E w g q W →
      PX ts L E w g (sevD ts one op m s) (.returned (.agg (exC o_ d_ m_ A_ n_ c_))) (set4w W w.heap.size (.int .i64 o_) (.int .i64 d_) (.string m_) (.slice A_ n_ c_)) := by
    intro W ks' q o_ d_ m_ A_ n_ c_ hq he hr hm
    exact ⟨_, _, _, _, _, _, _, rfl, hr.set4 rfl _ _ _ _, fun h0 => he (by rw [hq]; exact h0), by rw [← hq]; exact hm.set4 hgl (Nat.le_refl _) _ _ _ _⟩
  have hR : (sevL ts one m (ts.length + 1) [(one s).1] (one s).2).2 = (sevD ts one op m s).2 := rfl
  have hR1 : aloneD op (sevL ts one m (ts.length + 1) [(one s).1] (one s).2).1 = (sevD ts one op m s).1 := rfl
  rw [← hR1, ← hR] at hfin
  have HFin := Lib.hid hfin
  clear hfin cOne h1
  generalize hRR : sevL ts one m (ts.length + 1) [(one s).1] (one s).2 = R at *
  have HRR := Lib.hid hRR
  generalize hPost : PX ts L E w g (sevD ts one op m s) = Post at *
  unfold PX at c1
  generalize one s = o1 at *
  obtain ⟨x1, s1⟩ := o1
  dsimp only at c1
  clear hRR hPost h hR hR1
  go_enter Tryz.func61, Tryz.ntmps61
  go_wp2_with (go_at_call 62; (with_reducible refine c1.mono ?_); rintro e w1 ⟨o1, d1, m1, A1, n1, a1, x, rfl, hr1, he1, hm1⟩)
  have hw1 : w.heap.size + 1 ≤ w1.heap.size := by have := hm1.2.size; omega
  have hBn := Blk.new w1 45 (exC o1 d1 m1 A1 n1 a1)
  have hGn := Gr.alloc w1 (.cells (exC o1 d1 m1 A1 n1 a1) 45)
  have hX0 : XsOwn (w.heap.size + 1) (w1.alloc (.cells (exC o1 d1 m1 A1 n1 a1) 45)) (.slice (some ⟨w1.heap.size, 0, none⟩) 1 1) [x] _ := XsOwn.one hBn hw1 (RdEx.mono (fun b hb => ⟨by rw [← hs1]; exact hb.1, Nat.lt_of_lt_of_le hb.2 hGn.size, by omega⟩) _ _ (RdEx.keep (fun p hp => hGn.cell hp.2) _ _ hr1))
  have hst : SevTo ts L E one m R w g (.slice (some ⟨w1.heap.size, 0, none⟩) 1 1) (w1.alloc (.cells (exC o1 d1 m1 A1 n1 a1) 45)) :=
    ⟨[x1], [x], _, s1, ts.length + 1, _, _, rfl, hX0, rfl, fun h0 => by rw [he1 h0], (hm1.after hGA).gr hGn, (hB0.x hm1.2 (by omega)).below hGn (by have := hm1.2.size; omega), HRR.out.symm, fun _ => by omega, Nat.le_refl _, by simp; omega⟩
  clear hX0 hBn hm1 hr1 he1
  go_loopw [11] (fun v11 wr => SevTo ts L E one m R w g v11 wr) (fun v11 _ => 700 - slLen v11)
  case atStart => exact hst
  case round =>
    clear hst
    obtain ⟨ks, ks', cs, s, n, A, c, rfl, hX, hkl, hke, hm, hBr, hRe, hn, hk1, hkn⟩ := hrel
    have cA := pahead_any m hm.1
    cases hT : isT ts (wdB m) s with
    | true =>
      rw [hT] at cA
      have cW := fun W (hE : Env ts L E W g s) => pword_any m hE
      obtain ⟨n', rfl, hst2, hn2⟩ := sevL_step (ks := ks) H1.out hT hn
      rw [hst2] at hRe
      have HOK := Lib.hid (fun h0 => (take_goes ts (wdB m) s).ok ((H1.out _).ok h0) : (one (takeT ts (wdB m) s).2).2.err = 0 → s.err = 0)
      generalize (takeT ts (wdB m) s).2 = s2 at *
      have c1 := fun W hE => HOne.out W s2 hE
      unfold PX at c1
      generalize one s2 = o1 at *
      obtain ⟨x2, s3⟩ := o1
      dsimp only at c1 hRe hn2
      have HRe := Lib.hid hRe
      have HKE := Lib.hid hke
      have HN := Lib.hid hn2
      have HKL := Lib.hid hkl
      have hkb : ks'.length ≤ 100000 := by omega
      clear hRe hke hn2 hn hst2 hT hkl
      go_wp2_with (first
        | (go_at_call 55; (with_reducible refine cA.mono ?_); rintro e w2 ⟨rfl, hb2⟩)
        | (go_at_call 36; (with_reducible refine (cW _ (hm.1.gr hb2)).mono ?_); rintro e w3 ⟨⟨v3, rfl⟩, hm3⟩)
        | (go_at_call 62; (with_reducible refine (c1 _ hm3.1).mono ?_); rintro e w4 ⟨o1, d1, m1, A1, n1, a1, x, rfl, hr1, he1, hm4⟩
           have hM4 := ((hm.gr hb2).tr hm3).tr hm4
           have hGn := Gr.alloc w4 (.cells (exC o1 d1 m1 A1 n1 a1) 45)
           have hM5 := hM4.gr hGn
           have hX3 := (hX.gr hb2).x hm3.2 (by omega)
           have hX5 := (hX3.x hm4.2 (by omega)).gr hGn
           have hBn := Blk.new w4 45 (exC o1 d1 m1 A1 n1 a1)
           have hB5 := (((hBr.below hb2 hBr.lt).x hm3.2 (by omega)).x hm4.2 (by omega)).below hGn (by have h1 := hBr.lt; have h2 := hb2.size; have h3 := hm3.2.size; have h4 := hm4.2.size; omega)
           have hw3 : w.heap.size + 1 ≤ w3.heap.size := by have h1 := hBr.lt; have h2 := hb2.size; have h3 := hm3.2.size; omega
           have hle5 : w.heap.size + 1 ≤ (w4.alloc (.cells (exC o1 d1 m1 A1 n1 a1) 45)).heap.size := by have h4 := hm4.2.size; have h5 := hGn.size; omega)
        | (at_builtin
           go_loud (refine wpList_appendX _ rfl (.tmp 22) (.tmp 26) rfl (w.heap.size + 1) _ ks' cs rfl hX5 x o1 d1 m1 A1 n1 a1 _ rfl hBn ?_ hkb hle5 ?_)
           · exact RdEx.mono (fun b hb => ⟨by omega, Nat.lt_of_lt_of_le hb.2 hGn.size, own_lt_ hX3.row b hb.1⟩) _ _ (RdEx.keep (fun p hp => hGn.cell hp.2) _ _ hr1)
           intro v6 w6 hX6 hb6
           obtain ⟨A6, c6, hv6⟩ := hX6.vform
           rw [List.length_append, List.length_singleton] at hv6
           subst hv6))
      go_roundw
      case rel => exact ⟨ks ++ [x2], ks' ++ [x], _, s3, n', A6, c6, by simp, hX6, by simp [HKL.out], fun h0 => by rw [he1 h0, HKE.out (HOK.out h0)], hM5.below hgl (by omega) hb6, hB5.below hb6 (by omega), HRe.out, HN.out, by simp, by simp; omega⟩
      case measure => simp [slLen]; have := HKL.out; omega
    | false =>
      rw [hT] at cA
      rw [sevL_end hT] at hRe
      obtain rfl := hRe
      clear hn HRR H1 HOne
      by_cases hk : ks'.length = 1
      · obtain ⟨x', rfl⟩ := List.length_eq_one_iff.1 hk
        have HKE := Lib.hid hke
        clear hke hk hkl
        go_wp2_with (go_at_call 55; (with_reducible refine cA.mono ?_); rintro e w2 ⟨rfl, hb2⟩
                     obtain ⟨gb, cp, v0, v1, v2, v3, hv, hgb, hgb2, k0, k1, k2, k3, hrx⟩ := (hX.gr hb2).sole
                     obtain ⟨o_, d_, m_, A_, n_, c_, hf⟩ := exRd_form hrx
                     obtain ⟨rfl, rfl, rfl, rfl⟩ : v0 = .int .i64 o_ ∧ v1 = .int .i64 d_ ∧ v2 = .string m_ ∧ v3 = .slice A_ n_ c_ := by simpa using hf
                     obtain rfl : A = some ⟨gb, 0, none⟩ := by injection hv
                     have hB2 := hBr.below hb2 hBr.lt
                     obtain ⟨r0, r1, r2, r3, q0, q1, q2, q3⟩ := tk_cells hB2
                     clear hf hv)
        obtain ⟨z0, z1, z2, z3, -⟩ := tk_cells (hB2.tk4 (y0 := .int .i64 o_) (y1 := .int .i64 d_) (y2 := .string m_) (y3 := .slice A_ n_ c_))
        exact bodyPost_ret (v := .agg (exC o_ d_ m_ A_ n_ c_)) (by simp [results, Tryz.results61, go_sem, z0, z1, z2, z3]) rfl (HFin.out w2 [x'] s o_ d_ m_ A_ n_ c_ rfl (fun h0 => by rw [HKE.out h0]) hrx (hm.gr hb2))
      · have e1 : ((ks'.length : Int) == 1) = false := by simp; omega
        have e2 : decide (ks'.length = 1) = false := decide_eq_false hk
        have ea := aloneD_many (op := op) hk
        have HKE := Lib.hid hke
        have HEA := Lib.hid ea
        clear hke hk hkl ea
        go_wp2_with (go_at_call 55; (with_reducible refine cA.mono ?_); rintro e w2 ⟨rfl, hb2⟩
                     obtain ⟨A2, c2, hv, hrx⟩ := (hX.gr hb2).node op
                     clear hv
                     have hB2 := hBr.below hb2 hBr.lt
                     obtain ⟨r0, r1, r2, r3, q0, q1, q2, q3⟩ := tk_cells hB2)
        obtain ⟨z0, z1, z2, z3, -⟩ := tk_cells (hB2.tk4 (y0 := .int .i64 op) (y1 := .int .i64 0) (y2 := .string ⟨#[]⟩) (y3 := .slice A ks'.length c))
        exact bodyPost_ret (v := .agg (exC op 0 ⟨#[]⟩ A ks'.length c)) (by simp [results, Tryz.results61, go_sem, z0, z1, z2, z3]) rfl (HFin.out w2 ks' s op 0 ⟨#[]⟩ A ks'.length c rfl (fun h0 => by rw [HKE.out h0]) (by rw [HEA.out]; exact hrx) (hm.gr hb2))
set_option maxRecDepth 100000 in
set_option maxHeartbeats 4000000 in
theorem psev_fact (op : Int) (m : ByteArray) (d : Int) (one : Pst → Ex × Pst) (h1 : ∀ s, Goes s (one s).2) (cOne : ∀ (W : World) (s : Pst), Env ts L E W g s → Calls Tryz.prog 78 #[.pointer (some ⟨g, 0, none⟩), .int .i64 d] W (PX ts L E W g (one s))) (h : Env ts L E w g s) :
    Calls Tryz.prog 61 #[.pointer (some ⟨g, 0, none⟩), .int .i64 op, .string m, .func (.func 78) #[.pointer (some ⟨g, 0, none⟩)] #[], .int .i64 d] w (PX ts L E w g (sevD ts one op m s)) := by
  have hgl := h.lt
  have hlen := h.len
  have hGA := Gr.alloc w (.cells exZ 45)
  have hB0 := Blk.new w 45 exZ
  have hs1 : (w.alloc (.cells exZ 45)).heap.size = w.heap.size + 1 := by simp
  have c1 := cOne _ s (h.gr hGA)
  have HOne := Lib.hid cOne
  have H1 := Lib.hid h1
  have hfin : ∀ (W : World) (ks' : List Ex) (q : Pst) (o_ d_ : Int) (m_ : ByteArray) (A_ : Option Addr) (n_ c_ : Nat), q = (sevD ts one op m s).2 → (q.err = 0 → aloneD op ks' = (sevD ts one op m s).1) → RdEx W (fun b => w.heap.size + 1 ≤ b ∧ b < W.heap.size) (aloneD op ks') (.agg (exC o_ d_ m_ A_ n_ c_)) → MadeR ts L E w g q W →
      PX ts L E w g (sevD ts one op m s) (.returned (.agg (exC o_ d_ m_ A_ n_ c_))) (set4w W w.heap.size (.int .i64 o_) (.int .i64 d_) (.string m_) (.slice A_ n_ c_)) := by
    intro W ks' q o_ d_ m_ A_ n_ c_ hq he hr hm
    exact ⟨_, _, _, _, _, _, _, rfl, hr.set4 rfl _ _ _ _, fun h0 => he (by rw [hq]; exact h0), by rw [← hq]; exact hm.set4 hgl (Nat.le_refl _) _ _ _ _⟩
  have hR : (sevL ts one m (ts.length + 1) [(one s).1] (one s).2).2 = (sevD ts one op m s).2 := rfl
  have hR1 : aloneD op (sevL ts one m (ts.length + 1) [(one s).1] (one s).2).1 = (sevD ts one op m s).1 := rfl
  rw [← hR1, ← hR] at hfin
  have HFin := Lib.hid hfin
  clear hfin cOne h1
  generalize hRR : sevL ts one m (ts.length + 1) [(one s).1] (one s).2 = R at *
  have HRR := Lib.hid hRR
  generalize hPost : PX ts L E w g (sevD ts one op m s) = Post at *
  unfold PX at c1
  generalize one s = o1 at *
  obtain ⟨x1, s1⟩ := o1
  dsimp only at c1
  clear hRR hPost h hR hR1
  go_enter Tryz.func61, Tryz.ntmps61
  go_wp2_with (go_at_call 78; (with_reducible refine c1.mono ?_); rintro e w1 ⟨o1, d1, m1, A1, n1, a1, x, rfl, hr1, he1, hm1⟩)
  have hw1 : w.heap.size + 1 ≤ w1.heap.size := by have := hm1.2.size; omega
  have hBn := Blk.new w1 45 (exC o1 d1 m1 A1 n1 a1)
  have hGn := Gr.alloc w1 (.cells (exC o1 d1 m1 A1 n1 a1) 45)
  have hX0 : XsOwn (w.heap.size + 1) (w1.alloc (.cells (exC o1 d1 m1 A1 n1 a1) 45)) (.slice (some ⟨w1.heap.size, 0, none⟩) 1 1) [x] _ := XsOwn.one hBn hw1 (RdEx.mono (fun b hb => ⟨by rw [← hs1]; exact hb.1, Nat.lt_of_lt_of_le hb.2 hGn.size, by omega⟩) _ _ (RdEx.keep (fun p hp => hGn.cell hp.2) _ _ hr1))
  have hst : SevTo ts L E one m R w g (.slice (some ⟨w1.heap.size, 0, none⟩) 1 1) (w1.alloc (.cells (exC o1 d1 m1 A1 n1 a1) 45)) :=
    ⟨[x1], [x], _, s1, ts.length + 1, _, _, rfl, hX0, rfl, fun h0 => by rw [he1 h0], (hm1.after hGA).gr hGn, (hB0.x hm1.2 (by omega)).below hGn (by have := hm1.2.size; omega), HRR.out.symm, fun _ => by omega, Nat.le_refl _, by simp; omega⟩
  clear hX0 hBn hm1 hr1 he1
  go_loopw [11] (fun v11 wr => SevTo ts L E one m R w g v11 wr) (fun v11 _ => 700 - slLen v11)
  case atStart => exact hst
  case round =>
    clear hst
    obtain ⟨ks, ks', cs, s, n, A, c, rfl, hX, hkl, hke, hm, hBr, hRe, hn, hk1, hkn⟩ := hrel
    have cA := pahead_any m hm.1
    cases hT : isT ts (wdB m) s with
    | true =>
      rw [hT] at cA
      have cW := fun W (hE : Env ts L E W g s) => pword_any m hE
      obtain ⟨n', rfl, hst2, hn2⟩ := sevL_step (ks := ks) H1.out hT hn
      rw [hst2] at hRe
      have HOK := Lib.hid (fun h0 => (take_goes ts (wdB m) s).ok ((H1.out _).ok h0) : (one (takeT ts (wdB m) s).2).2.err = 0 → s.err = 0)
      generalize (takeT ts (wdB m) s).2 = s2 at *
      have c1 := fun W hE => HOne.out W s2 hE
      unfold PX at c1
      generalize one s2 = o1 at *
      obtain ⟨x2, s3⟩ := o1
      dsimp only at c1 hRe hn2
      have HRe := Lib.hid hRe
      have HKE := Lib.hid hke
      have HN := Lib.hid hn2
      have HKL := Lib.hid hkl
      have hkb : ks'.length ≤ 100000 := by omega
      clear hRe hke hn2 hn hst2 hT hkl
      go_wp2_with (first
        | (go_at_call 55; (with_reducible refine cA.mono ?_); rintro e w2 ⟨rfl, hb2⟩)
        | (go_at_call 36; (with_reducible refine (cW _ (hm.1.gr hb2)).mono ?_); rintro e w3 ⟨⟨v3, rfl⟩, hm3⟩)
        | (go_at_call 78; (with_reducible refine (c1 _ hm3.1).mono ?_); rintro e w4 ⟨o1, d1, m1, A1, n1, a1, x, rfl, hr1, he1, hm4⟩
           have hM4 := ((hm.gr hb2).tr hm3).tr hm4
           have hGn := Gr.alloc w4 (.cells (exC o1 d1 m1 A1 n1 a1) 45)
           have hM5 := hM4.gr hGn
           have hX3 := (hX.gr hb2).x hm3.2 (by omega)
           have hX5 := (hX3.x hm4.2 (by omega)).gr hGn
           have hBn := Blk.new w4 45 (exC o1 d1 m1 A1 n1 a1)
           have hB5 := (((hBr.below hb2 hBr.lt).x hm3.2 (by omega)).x hm4.2 (by omega)).below hGn (by have h1 := hBr.lt; have h2 := hb2.size; have h3 := hm3.2.size; have h4 := hm4.2.size; omega)
           have hw3 : w.heap.size + 1 ≤ w3.heap.size := by have h1 := hBr.lt; have h2 := hb2.size; have h3 := hm3.2.size; omega
           have hle5 : w.heap.size + 1 ≤ (w4.alloc (.cells (exC o1 d1 m1 A1 n1 a1) 45)).heap.size := by have h4 := hm4.2.size; have h5 := hGn.size; omega)
        | (at_builtin
           go_loud (refine wpList_appendX _ rfl (.tmp 22) (.tmp 26) rfl (w.heap.size + 1) _ ks' cs rfl hX5 x o1 d1 m1 A1 n1 a1 _ rfl hBn ?_ hkb hle5 ?_)
           · exact RdEx.mono (fun b hb => ⟨by omega, Nat.lt_of_lt_of_le hb.2 hGn.size, own_lt_ hX3.row b hb.1⟩) _ _ (RdEx.keep (fun p hp => hGn.cell hp.2) _ _ hr1)
           intro v6 w6 hX6 hb6
           obtain ⟨A6, c6, hv6⟩ := hX6.vform
           rw [List.length_append, List.length_singleton] at hv6
           subst hv6))
      go_roundw
      case rel => exact ⟨ks ++ [x2], ks' ++ [x], _, s3, n', A6, c6, by simp, hX6, by simp [HKL.out], fun h0 => by rw [he1 h0, HKE.out (HOK.out h0)], hM5.below hgl (by omega) hb6, hB5.below hb6 (by omega), HRe.out, HN.out, by simp, by simp; omega⟩
      case measure => simp [slLen]; have := HKL.out; omega
    | false =>
      rw [hT] at cA
      rw [sevL_end hT] at hRe
      obtain rfl := hRe
      clear hn HRR H1 HOne
      by_cases hk : ks'.length = 1
      · obtain ⟨x', rfl⟩ := List.length_eq_one_iff.1 hk
        have HKE := Lib.hid hke
        clear hke hk hkl
        go_wp2_with (go_at_call 55; (with_reducible refine cA.mono ?_); rintro e w2 ⟨rfl, hb2⟩
                     obtain ⟨gb, cp, v0, v1, v2, v3, hv, hgb, hgb2, k0, k1, k2, k3, hrx⟩ := (hX.gr hb2).sole
                     obtain ⟨o_, d_, m_, A_, n_, c_, hf⟩ := exRd_form hrx
                     obtain ⟨rfl, rfl, rfl, rfl⟩ : v0 = .int .i64 o_ ∧ v1 = .int .i64 d_ ∧ v2 = .string m_ ∧ v3 = .slice A_ n_ c_ := by simpa using hf
                     obtain rfl : A = some ⟨gb, 0, none⟩ := by injection hv
                     have hB2 := hBr.below hb2 hBr.lt
                     obtain ⟨r0, r1, r2, r3, q0, q1, q2, q3⟩ := tk_cells hB2
                     clear hf hv)
        obtain ⟨z0, z1, z2, z3, -⟩ := tk_cells (hB2.tk4 (y0 := .int .i64 o_) (y1 := .int .i64 d_) (y2 := .string m_) (y3 := .slice A_ n_ c_))
        exact bodyPost_ret (v := .agg (exC o_ d_ m_ A_ n_ c_)) (by simp [results, Tryz.results61, go_sem, z0, z1, z2, z3]) rfl (HFin.out w2 [x'] s o_ d_ m_ A_ n_ c_ rfl (fun h0 => by rw [HKE.out h0]) hrx (hm.gr hb2))
      · have e1 : ((ks'.length : Int) == 1) = false := by simp; omega
        have e2 : decide (ks'.length = 1) = false := decide_eq_false hk
        have ea := aloneD_many (op := op) hk
        have HKE := Lib.hid hke
        have HEA := Lib.hid ea
        clear hke hk hkl ea
        go_wp2_with (go_at_call 55; (with_reducible refine cA.mono ?_); rintro e w2 ⟨rfl, hb2⟩
                     obtain ⟨A2, c2, hv, hrx⟩ := (hX.gr hb2).node op
                     clear hv
                     have hB2 := hBr.below hb2 hBr.lt
                     obtain ⟨r0, r1, r2, r3, q0, q1, q2, q3⟩ := tk_cells hB2)
        obtain ⟨z0, z1, z2, z3, -⟩ := tk_cells (hB2.tk4 (y0 := .int .i64 op) (y1 := .int .i64 0) (y2 := .string ⟨#[]⟩) (y3 := .slice A ks'.length c))
        exact bodyPost_ret (v := .agg (exC op 0 ⟨#[]⟩ A ks'.length c)) (by simp [results, Tryz.results61, go_sem, z0, z1, z2, z3]) rfl (HFin.out w2 ks' s op 0 ⟨#[]⟩ A ks'.length c rfl (fun h0 => by rw [HKE.out h0]) (by rw [HEA.out]; exact hrx) (hm.gr hb2))

end
end Go.Proofs.YtogpmihepfnoaaaGreatDoor

namespace Go.Proofs.YtogpmihepfnoaaaGreatDoor
open Go Go.RowKit Go.Sort

theorem take_small {ts : List Tk} (h : ∀ t ∈ ts, t.text.size ≤ 600) (p : Tk → Bool) (s : Pst) : (takeT ts p s).1.text.size ≤ 600 := by
  unfold takeT
  split
  · exact Nat.zero_le _
  · cases ht : ts[s.pos]? with
    | none => exact Nat.zero_le _
    | some t =>
      dsimp only
      split
      · exact h t (List.mem_of_getElem? ht)
      · exact Nat.zero_le _
theorem rdx_leaf (w : World) (K : Nat → Prop) (d : Int) (m : ByteArray) (h : m.size ≤ 600) : RdEx w K (.mk 1 d m []) (.agg (exC 1 d m none 0 0)) := by
  rw [RdEx]
  exact ⟨none, 0, [], rfl, ⟨Nat.le_refl _, Nat.zero_le _, by show m.size ≤ 140737488351232; omega⟩, Rk.nil _ _ _ _, by rw [RdExL]⟩
section
variable {ts : List Tk} {L : Value} {E : Int} {w w' : World} {g : Nat} {s : Pst}
theorem PX.fin {W : World} {o : Ex × Pst} {o_ d_ : Int} {m_ : ByteArray} {A_ : Option Addr} {n_ c_ : Nat} {x : Ex} (hgl : g < w.heap.size) (hr : RdEx W (fun b => w.heap.size + 1 ≤ b ∧ b < W.heap.size) x (.agg (exC o_ d_ m_ A_ n_ c_))) (he : o.2.err = 0 → x = o.1) (hm : MadeR ts L E w g o.2 W) :
    PX ts L E w g o (.returned (.agg (exC o_ d_ m_ A_ n_ c_))) (set4w W w.heap.size (.int .i64 o_) (.int .i64 d_) (.string m_) (.slice A_ n_ c_)) :=
  ⟨_, _, _, _, _, _, _, rfl, hr.set4 rfl _ _ _ _, he, hm.set4 hgl (Nat.le_refl _) _ _ _ _⟩
set_option maxRecDepth 100000 in
set_option maxHeartbeats 2000000 in
theorem pterm_any (d : Int) (one : Pst → Ex × Pst) (h1 : ∀ s, Goes s (one s).2) (cOne : ∀ (W : World) (s : Pst), Env ts L E W g s → Calls Tryz.prog 78 #[.pointer (some ⟨g, 0, none⟩), .int .i64 d] W (PX ts L E W g (one s))) (h : Env ts L E w g s) :
    Calls Tryz.prog 62 #[.pointer (some ⟨g, 0, none⟩), .int .i64 d] w (PX ts L E w g (sevD ts one 3 wAnd s)) := by
  have hgl := h.lt
  have hGA := Gr.alloc w (.cells exZ 45)
  have hB0 := Blk.new w 45 exZ
  have hs1 : (w.alloc (.cells exZ 45)).heap.size = w.heap.size + 1 := by simp
  have cS := psev_fact 3 wAnd d one h1 cOne (h.gr hGA)
  unfold PX at cS
  have HF := Lib.hid (fun W o_ d_ m_ A_ n_ c_ x hr he hm => @PX.fin ts L E w g W (sevD ts one 3 wAnd s) o_ d_ m_ A_ n_ c_ x hgl hr he hm)
  generalize hPost : PX ts L E w g (sevD ts one 3 wAnd s) = Post at *
  generalize sevD ts one 3 wAnd s = o at *
  clear h1 cOne h hPost
  go_enter Tryz.func62, Tryz.ntmps62
  go_wp2_with (go_at_call 61; (with_reducible refine cS.mono ?_); rintro e w1 ⟨o_, d_, m_, A_, n_, c_, x, rfl, hr1, he1, hm1⟩
               have hBr : Blk w1 w.heap.size 45 exZ := hB0.x hm1.2 (by omega)
               obtain ⟨r0, r1, r2, r3, q0, q1, q2, q3⟩ := tk_cells hBr)
  obtain ⟨z0, z1, z2, z3, -⟩ := tk_cells (hBr.tk4 (y0 := .int .i64 o_) (y1 := .int .i64 d_) (y2 := .string m_) (y3 := .slice A_ n_ c_))
  exact bodyPost_ret (v := .agg (exC o_ d_ m_ A_ n_ c_)) (by simp [results, Tryz.results62, go_sem, z0, z1, z2, z3]) rfl (HF.out w1 o_ d_ m_ A_ n_ c_ x (RdEx.mono (fun b hb => ⟨by omega, hb.2⟩) _ _ hr1) he1 (hm1.after hGA))
set_option maxRecDepth 100000 in
set_option maxHeartbeats 4000000 in
theorem pfact_any (d d' : Int) (hd : d + 1 = d') (hd0 : 0 ≤ d) (hd9 : d ≤ 100) (cond : Pst → Ex × Pst) (cC : ∀ (W : World) (s : Pst), Env ts L E W g s → Calls Tryz.prog 37 #[.pointer (some ⟨g, 0, none⟩), .int .i64 d'] W (PX ts L E W g (cond s))) (h : Env ts L E w g s) :
    Calls Tryz.prog 78 #[.pointer (some ⟨g, 0, none⟩), .int .i64 d] w (PX ts L E w g (factD ts cond s)) := by
  subst hd
  have hgl := h.lt
  have hsm := h.small
  have hGA := Gr.alloc w (.cells exZ 45)
  have hB0 := Blk.new w 45 exZ
  have hA := h.gr hGA
  have hs1 : (w.alloc (.cells exZ 45)).heap.size = w.heap.size + 1 := by simp
  have cP := ppeek_any hA
  have cK4 := fun W (hE : Env ts L E W g s) => pkind_any 4 hE
  have cK3 := fun W (hE : Env ts L E W g s) => pkind_any 3 hE
  have HF := Lib.hid (fun W o_ d_ m_ A_ n_ c_ x hr he hm => @PX.fin ts L E w g W (factD ts cond s) o_ d_ m_ A_ n_ c_ x hgl hr he hm)
  generalize hPost : PX ts L E w g (factD ts cond s) = Post at *
  have hI : isT ts (kindB 4) s = ((peekD ts s).2 && decide ((peekD ts s).1.kind = 4)) := isT_peek ts (kindB 4) s
  have hD : factD ts cond s = if isT ts (kindB 4) s then ((cond (takeT ts (kindB 4) s).2).1, (takeT ts (kindB 5) (cond (takeT ts (kindB 4) s).2).2).2) else (.mk 1 (takeT ts (kindB 3) s).1.n (takeT ts mileB (takeT ts (wdB wAfter) (takeT ts (kindB 3) s).2).2).1.text [], (takeT ts mileB (takeT ts (wdB wAfter) (takeT ts (kindB 3) s).2).2).2) := rfl
  generalize peekD ts s = pk at *
  obtain ⟨⟨tk, tx, tn, ta⟩, b⟩ := pk
  dsimp only at cP hI
  have h_ := h
  clear hPost h hA
  by_cases hy : b = true ∧ tk = 4
  · obtain ⟨rfl, rfl⟩ := hy
    have hI2 : isT ts (kindB 4) s = true := by rw [hI]; simp
    rw [hI2, if_pos rfl] at hD
    clear hI2
    have HD := Lib.hid hD
    have HOK := Lib.hid (fun h0 => (take_goes ts (kindB 5) (cond (takeT ts (kindB 4) s).2).2).ok h0 : (takeT ts (kindB 5) (cond (takeT ts (kindB 4) s).2).2).2.err = 0 → _)
    clear hI hD cK3
    generalize factD ts cond s = o at *
    generalize takeT ts (kindB 4) s = o4 at *
    obtain ⟨⟨k4, x4, n4, a4⟩, s4⟩ := o4
    dsimp only at *
    have cCC := fun W hE => cC W s4 hE
    unfold PX at cCC
    generalize cond s4 = oc at *
    obtain ⟨xc, sc⟩ := oc
    dsimp only at *
    have cK5 := fun W (hE : Env ts L E W g sc) => pkind_any 5 hE
    generalize takeT ts (kindB 5) sc = o5 at *
    obtain ⟨⟨k5, x5, n5, a5⟩, s5⟩ := o5
    dsimp only at *
    obtain ⟨ox, os⟩ := o
    have HD1 := Lib.hid (congrArg Prod.fst HD.out)
    have HD2 := congrArg Prod.snd HD.out
    dsimp only at HD2
    subst HD2
    clear cC HD
    go_enter Tryz.func78, Tryz.ntmps78
    go_wp2_with (first
      | (go_at_call 77; (with_reducible refine cP.mono ?_); rintro e w2 ⟨rfl, hb2⟩
         have hG2 := Gr.trans (Gr.trans hGA hb2) (Gr.alloc w2 (.cells (tkC 4 tx tn ta) 73))
         have hE2 := h_.gr hG2
         obtain ⟨y0, y1, y2, y3, -⟩ := tk_cells (Blk.new w2 73 (tkC 4 tx tn ta)))
      | (go_at_call 39; (with_reducible refine (cK4 _ hE2).mono ?_); rintro e w3 ⟨rfl, hm3⟩)
      | (go_at_call 37; (with_reducible refine (cCC _ hm3.1).mono ?_); rintro e w4 ⟨o_, d_, m_, A_, n_, c_, x, rfl, hr4, he4, hm4⟩
         have hBx := Blk.new w4 45 (exC o_ d_ m_ A_ n_ c_)
         have hGx := Gr.alloc w4 (.cells (exC o_ d_ m_ A_ n_ c_) 45))
      | (go_at_call 39; (with_reducible refine (cK5 _ (hm4.1.gr hGx)).mono ?_); rintro e w5 ⟨rfl, hm5⟩
         have hw4 : g < w4.heap.size := hm4.1.lt
         have hM5 : MadeR ts L E w g os w5 := ((MadeR.tr (MadeR.after hG2 hm3) hm4).gr hGx).tr hm5
         obtain ⟨u0, u1, u2, u3, -⟩ := tk_cells (hBx.x hm5.2 (by omega))
         have hBr : Blk w5 w.heap.size 45 exZ := ((((hB0.below (Gr.trans hb2 (Gr.alloc w2 (.cells (tkC 4 tx tn ta) 73))) hB0.lt).x hm3.2 (by omega)).x hm4.2 (by omega)).x (GrX.of_gr hGx g) (by omega)).x hm5.2 (by omega)
         obtain ⟨r0, r1, r2, r3, q0, q1, q2, q3⟩ := tk_cells hBr
         have hw3 : w.heap.size + 1 ≤ w3.heap.size := by have h2 := hb2.size; have h3 := hm3.2.size; simp at h3; omega))
    obtain ⟨z0, z1, z2, z3, -⟩ := tk_cells (hBr.tk4 (y0 := .int .i64 o_) (y1 := .int .i64 d_) (y2 := .string m_) (y3 := .slice A_ n_ c_))
    refine bodyPost_ret (v := .agg (exC o_ d_ m_ A_ n_ c_)) (by simp [results, Tryz.results78, go_sem, z0, z1, z2, z3]) rfl (HF.out w5 o_ d_ m_ A_ n_ c_ x ?_ (fun h0 => by rw [he4 (HOK.out h0)]; exact HD1.out.symm) hM5)
    refine RdEx.mono (fun b hb => ⟨by omega, Nat.lt_of_lt_of_le hb.2 (Nat.le_trans hGx.size hm5.2.size)⟩) _ _ (RdEx.keep (fun p hp => ?_) _ _ hr4)
    rw [grx_cell hm5.2 (Nat.lt_of_lt_of_le hp.2 hGx.size) (by have := hm3.1.lt; omega), hGx.cell hp.2]
  · have hI2 : isT ts (kindB 4) s = false := by
      rw [hI]
      cases b with
      | false => rfl
      | true => rw [decide_eq_false (fun e => hy ⟨rfl, e⟩)]; rfl
    rw [hI2, if_neg (by simp)] at hD
    have HD := Lib.hid hD
    have hb4 : b = false ∨ ((tk == 4) = false ∧ b = true) := by
      cases b with
      | false => exact .inl rfl
      | true => exact .inr ⟨by simp; exact fun e => hy ⟨rfl, e⟩, rfl⟩
    have hs3 := take_small hsm mileB (takeT ts (wdB wAfter) (takeT ts (kindB 3) s).2).2
    clear hI hD cK4 cC hI2 hy
    generalize factD ts cond s = o at *
    generalize takeT ts (kindB 3) s = o3 at *
    obtain ⟨⟨k3, x3, n3, a3⟩, s3⟩ := o3
    dsimp only at *
    have cW := fun W (hE : Env ts L E W g s3) => pword_any wAfter hE
    generalize takeT ts (wdB wAfter) s3 = o4 at *
    obtain ⟨⟨k4, x4, n4, a4⟩, s4⟩ := o4
    dsimp only at *
    have cM := fun W (hE : Env ts L E W g s4) => ptake_mile hE
    generalize takeT ts mileB s4 = o5 at *
    obtain ⟨⟨k5, x5, n5, a5⟩, s5⟩ := o5
    dsimp only at *
    obtain ⟨ox, os⟩ := o
    have HD1 := Lib.hid (congrArg Prod.fst HD.out)
    have HD2 := congrArg Prod.snd HD.out
    dsimp only at HD2
    subst HD2
    clear HD
    rcases hb4 with rfl | ⟨hb4, rfl⟩
    all_goals
      go_enter Tryz.func78, Tryz.ntmps78
      go_wp2_with (first
        | (go_at_call 77; (with_reducible refine cP.mono ?_); rintro e w2 ⟨rfl, hb2⟩
           have hG2 := Gr.trans (Gr.trans hGA hb2) (Gr.alloc w2 (.cells (tkC tk tx tn ta) 73))
           have hE2 := h_.gr hG2
           obtain ⟨y0, y1, y2, y3, -⟩ := tk_cells (Blk.new w2 73 (tkC tk tx tn ta)))
        | (go_at_call 39; (with_reducible refine (cK3 _ hE2).mono ?_); rintro e w3 ⟨rfl, hm3⟩
           have hBx := Blk.new w3 73 (tkC k3 x3 n3 a3)
           have hGx := Gr.alloc w3 (.cells (tkC k3 x3 n3 a3) 73)
           have hw3 : g < w3.heap.size := hm3.1.lt)
        | (go_at_call 36; (with_reducible refine (cW _ (hm3.1.gr hGx)).mono ?_); rintro e w4 ⟨⟨v4, rfl⟩, hm4⟩)
        | (go_at_call 56; (with_reducible refine (cM _ hm4.1).mono ?_); rintro e w5 ⟨rfl, hm5⟩
           have hGy := Gr.alloc w5 (.cells (tkC k5 x5 n5 a5) 73)
           have hM5 : MadeR ts L E w g os (w5.alloc (.cells (tkC k5 x5 n5 a5) 73)) := (((MadeR.after hG2 hm3).gr hGx).tr (hm4.tr hm5)).gr hGy
           obtain ⟨u0, u1, u2, u3, -⟩ := tk_cells (((hBx.x hm4.2 (by omega)).x hm5.2 (by omega)).x (GrX.of_gr hGy g) (by omega))
           obtain ⟨v0, v1, v2, v3, -⟩ := tk_cells (Blk.new w5 73 (tkC k5 x5 n5 a5))
           have hBr : Blk (w5.alloc (.cells (tkC k5 x5 n5 a5) 73)) w.heap.size 45 exZ := (((((hB0.below (Gr.trans hb2 (Gr.alloc w2 (.cells (tkC tk tx tn ta) 73))) hB0.lt).x hm3.2 (by omega)).x (GrX.of_gr hGx g) (by omega)).x hm4.2 (by omega)).x hm5.2 (by omega)).x (GrX.of_gr hGy g) (by omega)
           obtain ⟨r0, r1, r2, r3, q0, q1, q2, q3⟩ := tk_cells hBr))
      obtain ⟨z0, z1, z2, z3, -⟩ := tk_cells (hBr.tk4 (y0 := .int .i64 1) (y1 := .int .i64 n3) (y2 := .string x5) (y3 := .slice none 0 0))
      exact bodyPost_ret (v := .agg (exC 1 n3 x5 none 0 0)) (by simp [results, Tryz.results78, go_sem, z0, z1, z2, z3]) rfl (HF.out _ 1 n3 x5 none 0 0 (.mk 1 n3 x5 []) (rdx_leaf _ _ _ _ hs3) (fun _ => HD1.out.symm) hM5)
set_option maxRecDepth 100000 in
set_option maxHeartbeats 2000000 in
theorem pcond_any : ∀ (K : Nat) (w : World) (s : Pst) (d : Int), K ≤ 8 → d = 9 - (K : Int) → Env ts L E w g s → Calls Tryz.prog 37 #[.pointer (some ⟨g, 0, none⟩), .int .i64 d] w (PX ts L E w g (condD ts K s)) := by
  intro K
  induction K with
  | zero =>
    intro w s d _ hd h
    obtain rfl : d = 9 := by omega
    clear hd
    have hgl := h.lt
    have hGA := Gr.alloc w (.cells exZ 45)
    have hB0 := Blk.new w 45 exZ
    have hA := h.gr hGA
    have HF := Lib.hid (fun W o_ d_ m_ A_ n_ c_ x hr he hm => @PX.fin ts L E w g W (condD ts 0 s) o_ d_ m_ A_ n_ c_ x hgl hr he hm)
    have e0 : condD ts 0 s = (Ex.none_, failD 2 (burnD s)) := by rw [condD]
    rw [e0] at HF ⊢
    have hn : (failD 2 (burnD s)).err ≠ 0 := by
      unfold failD
      split
      · show (2 : Int) ≠ 0; omega
      · assumption
    generalize hPost : PX ts L E w g (Ex.none_, failD 2 (burnD s)) = Post at *
    have cF := fun W (hE : Env ts L E W g (burnD s)) => pfail_any hE 2
    by_cases he : (burnD s).err = 0
    · have cB := pburn_yes hA he
      generalize failD 2 (burnD s) = q at *
      generalize burnD s = b0 at *
      clear h hA hPost e0 he
      go_enter Tryz.func37, Tryz.ntmps37
      go_wp2_with (first
        | (go_at_call 59; (with_reducible refine cB.mono ?_); rintro e w1 ⟨rfl, hm1⟩)
        | (go_at_call 60; (with_reducible refine (cF _ hm1.1).mono ?_); rintro e w2 ⟨⟨v2, rfl⟩, hm2⟩
           have hBr : Blk w2 w.heap.size 45 exZ := (hB0.x hm1.2 (by omega)).x hm2.2 (by omega)
           obtain ⟨r0, r1, r2, r3, q0, q1, q2, q3⟩ := tk_cells hBr)
        | (go_at_call 22; (with_reducible refine (pok_no hm2.1 hn).mono ?_); rintro e w3 ⟨rfl, rfl⟩))
      obtain ⟨z0, z1, z2, z3, -⟩ := tk_cells (hBr.tk4 (y0 := .int .i64 0) (y1 := .int .i64 0) (y2 := .string ⟨#[]⟩) (y3 := .slice none 0 0))
      exact bodyPost_ret (v := .agg exZ) (by simp [results, Tryz.results37, go_sem, z0, z1, z2, z3]) rfl (HF.out _ 0 0 ⟨#[]⟩ none 0 0 Ex.none_ (rd_none _ _) (fun _ => rfl) (MadeR.after hGA (hm1.tr hm2)))
    · have cB := pburn_no hA he
      have ef : failD 2 (burnD s) = burnD s := by unfold failD; rw [if_neg he]
      rw [ef] at HF hn
      clear hPost e0 ef cF
      generalize burnD s = b0 at *
      clear h hA he
      go_enter Tryz.func37, Tryz.ntmps37
      go_wp2_with (first
        | (go_at_call 59; (with_reducible refine cB.mono ?_); rintro e w1 ⟨rfl, hm1⟩
           have hBr : Blk w1 w.heap.size 45 exZ := hB0.x hm1.2 (by omega)
           obtain ⟨r0, r1, r2, r3, q0, q1, q2, q3⟩ := tk_cells hBr)
        | (go_at_call 22; (with_reducible refine (pok_no hm1.1 hn).mono ?_); rintro e w3 ⟨rfl, rfl⟩))
      obtain ⟨z0, z1, z2, z3, -⟩ := tk_cells (hBr.tk4 (y0 := .int .i64 0) (y1 := .int .i64 0) (y2 := .string ⟨#[]⟩) (y3 := .slice none 0 0))
      exact bodyPost_ret (v := .agg exZ) (by simp [results, Tryz.results37, go_sem, z0, z1, z2, z3]) rfl (HF.out _ 0 0 ⟨#[]⟩ none 0 0 Ex.none_ (rd_none _ _) (fun _ => rfl) (MadeR.after hGA hm1))
  | succ K ih =>
    intro w s d hK hd h
    have hgl := h.lt
    have hGA := Gr.alloc w (.cells exZ 45)
    have hB0 := Blk.new w 45 exZ
    have hA := h.gr hGA
    have hs1 : (w.alloc (.cells exZ 45)).heap.size = w.heap.size + 1 := by simp
    have hd8 : d ≤ 8 := by omega
    have hd0 : 0 ≤ d := by omega
    have g0 := factD_goes (ts := ts) (condD_goes ts K)
    have g1 := sevD_goes (ts := ts) g0 3 wAnd
    have cFact : ∀ (W : World) (s : Pst), Env ts L E W g s → Calls Tryz.prog 78 #[.pointer (some ⟨g, 0, none⟩), .int .i64 d] W (PX ts L E W g (factD ts (condD ts K) s)) :=
      fun W s hE => pfact_any d (d + 1) rfl hd0 (by omega) (condD ts K) (fun W s hE => ih W s (d + 1) (by omega) (by omega) hE) hE
    have cTerm : ∀ (W : World) (s : Pst), Env ts L E W g s → Calls Tryz.prog 62 #[.pointer (some ⟨g, 0, none⟩), .int .i64 d] W (PX ts L E W g (sevD ts (factD ts (condD ts K)) 3 wAnd s)) :=
      fun W s hE => pterm_any d (factD ts (condD ts K)) g0 cFact hE
    have cS := fun W (hE : Env ts L E W g (burnD s)) => psev_term 2 wOr d (sevD ts (factD ts (condD ts K)) 3 wAnd) g1 cTerm hE
    unfold PX at cS
    have HF := Lib.hid (fun W o_ d_ m_ A_ n_ c_ x hr he hm => @PX.fin ts L E w g W (condD ts (K + 1) s) o_ d_ m_ A_ n_ c_ x hgl hr he hm)
    have e0 : condD ts (K + 1) s = if (burnD s).err ≠ 0 then (Ex.none_, burnD s) else sevD ts (sevD ts (factD ts (condD ts K)) 3 wAnd) 2 wOr (burnD s) := by rw [condD]
    clear cFact cTerm ih g0 g1
    by_cases he : (burnD s).err = 0
    · have cB := pburn_yes hA he
      rw [if_neg (by omega)] at e0
      rw [e0] at HF ⊢
      generalize hPost : PX ts L E w g (sevD ts (sevD ts (factD ts (condD ts K)) 3 wAnd) 2 wOr (burnD s)) = Post at *
      generalize sevD ts (sevD ts (factD ts (condD ts K)) 3 wAnd) 2 wOr (burnD s) = o at *
      generalize burnD s = b0 at *
      have HE := Lib.hid he
      clear h hA hPost e0 he hd
      go_enter Tryz.func37, Tryz.ntmps37
      go_wp2_with (first
        | (go_at_call 59; (with_reducible refine cB.mono ?_); rintro e w1 ⟨rfl, hm1⟩)
        | (go_at_call 22; (with_reducible refine (pok_yes hm1.1 HE.out).mono ?_); rintro e w3 ⟨rfl, rfl⟩)
        | (go_at_call 61; (with_reducible refine (cS _ hm1.1).mono ?_); rintro e w2 ⟨o_, d_, m_, A_, n_, c_, x, rfl, hr2, he2, hm2⟩
           have hBr : Blk w2 w.heap.size 45 exZ := (hB0.x hm1.2 (by omega)).x hm2.2 (by omega)
           obtain ⟨r0, r1, r2, r3, q0, q1, q2, q3⟩ := tk_cells hBr
           have hw1 : w.heap.size + 1 ≤ w1.heap.size := by have := hm1.2.size; omega))
      obtain ⟨z0, z1, z2, z3, -⟩ := tk_cells (hBr.tk4 (y0 := .int .i64 o_) (y1 := .int .i64 d_) (y2 := .string m_) (y3 := .slice A_ n_ c_))
      exact bodyPost_ret (v := .agg (exC o_ d_ m_ A_ n_ c_)) (by simp [results, Tryz.results37, go_sem, z0, z1, z2, z3]) rfl (HF.out _ o_ d_ m_ A_ n_ c_ x (RdEx.mono (fun b hb => ⟨by omega, hb.2⟩) _ _ hr2) he2 (MadeR.after hGA (hm1.tr hm2)))
    · have cB := pburn_no hA he
      rw [if_pos he] at e0
      rw [e0] at HF ⊢
      generalize hPost : PX ts L E w g (Ex.none_, burnD s) = Post at *
      clear cS e0 hPost
      generalize burnD s = b0 at *
      clear h hA hd
      go_enter Tryz.func37, Tryz.ntmps37
      go_wp2_with (first
        | (go_at_call 59; (with_reducible refine cB.mono ?_); rintro e w1 ⟨rfl, hm1⟩
           have hBr : Blk w1 w.heap.size 45 exZ := hB0.x hm1.2 (by omega)
           obtain ⟨r0, r1, r2, r3, q0, q1, q2, q3⟩ := tk_cells hBr)
        | (go_at_call 22; (with_reducible refine (pok_no hm1.1 he).mono ?_); rintro e w3 ⟨rfl, rfl⟩))
      obtain ⟨z0, z1, z2, z3, -⟩ := tk_cells (hBr.tk4 (y0 := .int .i64 0) (y1 := .int .i64 0) (y2 := .string ⟨#[]⟩) (y3 := .slice none 0 0))
      exact bodyPost_ret (v := .agg exZ) (by simp [results, Tryz.results37, go_sem, z0, z1, z2, z3]) rfl (HF.out _ 0 0 ⟨#[]⟩ none 0 0 Ex.none_ (rd_none _ _) (fun _ => rfl) (MadeR.after hGA hm1))
end
end Go.Proofs.YtogpmihepfnoaaaGreatDoor

namespace Go.Proofs.YtogpmihepfnoaaaGreatDoor
open Go Go.RowKit Go.Sort

theorem take_moves (ts : List Tk) (p : Tk → Bool) (s : Pst) (h : (takeT ts p s).2.err = 0) : s.pos + 1 ≤ (takeT ts p s).2.pos := by
  have hb := burn_pos s
  revert h
  unfold takeT
  split
  · rename_i hn; intro e; exact absurd e hn
  · cases ts[s.pos]? with
    | none => intro h; cases h
    | some t =>
      dsimp only
      split
      · exact fun _ => Nat.le_refl _
      · intro h; cases h
theorem rule_moves (ts : List Tk) (s : Pst) (h : (ruleD ts s).2.err = 0) : s.pos + 1 ≤ (ruleD ts s).2.pos := by
  have h1 := take_moves ts (kindB 6) _ h
  have g0 := (((classD_goes ts s).trans (take_goes ts (wdB wKeep) _)).trans (condD_goes ts 8 _)).trans ((take_goes ts (wdB wThen) _).trans (actD_goes ts _))
  have := g0.pos
  exact Nat.le_trans (Nat.succ_le_succ this) h1
section
variable {ts : List Tk} {L : Value} {E : Int} {w w' : World} {g : Nat} {s : Pst}
set_option maxRecDepth 100000 in
theorem phere_any {len : Nat} (h : Env ts L len w g s) : Calls Tryz.prog 24 #[.pointer (some ⟨g, 0, none⟩)] w fun e w' => e = .returned (.int .i64 (hereD ts len s)) ∧ ∃ n, w' = w.drewN n := by
  obtain ⟨A, c, rfl, hc⟩ := h.rd.form
  have hlen := h.len
  obtain ⟨c0, c1, c2, c3, c4, f1, f3, f4⟩ := h.cells
  cases ht : ts[s.pos]? with
  | none =>
    have hp : ts.length ≤ s.pos := List.getElem?_eq_none_iff.1 ht
    have hp' : s.pos = ts.length := by have := h.pos; omega
    rw [hp'] at c1
    rw [show hereD ts len s = (len : Int) by unfold hereD; rw [ht]]
    clear h ht hp hp'
    go_enter Tryz.func24, Tryz.ntmps24
    go_wp2
    go_quiet (fail)
    go_wp2
    go_ret
    exact ⟨rfl, _, rfl⟩
  | some t =>
    obtain ⟨hp, -⟩ := List.getElem?_eq_some_iff.1 ht
    have hp1 : (s.pos : Int) < (ts.length : Int) := by omega
    obtain ⟨ad, P, rfl, eP, hP, k0, k1, k2, k3⟩ := h.rd.tok s.pos t ht
    rw [show hereD ts len s = t.at_ by unfold hereD; rw [ht]]
    clear h ht
    go_enter Tryz.func24, Tryz.ntmps24
    go_wp2
    go_quiet (fail)
    go_wp2
    go_quiet (fail)
    go_wp2
    go_ret
    exact ⟨rfl, _, World.drewN_drewN _ _ _⟩
set_option maxRecDepth 100000 in
set_option maxHeartbeats 1000000 in
theorem pclass_any (h : Env ts L E w g s) : Calls Tryz.prog 35 #[.pointer (some ⟨g, 0, none⟩)] w fun e w' => e = .returned (.string (classD ts s).1) ∧ MadeR ts L E w g (classD ts s).2 w' := by
  have cA := pahead_any wClass h
  have hD : classD ts s = if isT ts (wdB wClass) s then ((takeT ts (kindB 2) (takeT ts (wdB wClass) s).2).1.text, (takeT ts (kindB 2) (takeT ts (wdB wClass) s).2).2) else (⟨#[]⟩, (takeT ts (wdB wDefault) s).2) := rfl
  cases hT : isT ts (wdB wClass) s with
  | true =>
    rw [hT] at cA hD
    rw [hD, if_pos rfl]
    have cW := fun W (hE : Env ts L E W g s) => pword_any wClass hE
    generalize (takeT ts (wdB wClass) s).2 = s2 at *
    have cK := fun W (hE : Env ts L E W g s2) => pkind_any 2 hE
    generalize takeT ts (kindB 2) s2 = o at *
    obtain ⟨⟨tk, tx, tn, ta⟩, q⟩ := o
    dsimp only [tkV] at *
    have h_ := h
    have hfd : ∀ w : World, (Instr.field 73 (.agg #[.int .i64 tk, .string tx, .int .i64 tn, .int .i64 ta]) 1).run Tryz.prog w = .ok (.string tx) w := fun _ => by kernel_rfl
    clear hD hT h
    go_enter Tryz.func35, Tryz.ntmps35
    go_wp2_with (first
      | (go_at_call 55; (with_reducible refine cA.mono ?_); rintro e w1 ⟨rfl, hb1⟩)
      | (go_at_call 36; (with_reducible refine (cW _ (h_.gr hb1)).mono ?_); rintro e w2 ⟨⟨v2, rfl⟩, hm2⟩)
      | (go_at_call 39; (with_reducible refine (cK _ hm2.1).mono ?_); rintro e w3 ⟨rfl, hm3⟩))
    go_ret
    exact ⟨rfl, MadeR.after hb1 (hm2.tr hm3)⟩
  | false =>
    rw [hT] at cA hD
    rw [hD, if_neg (by simp)]
    have cW := fun W (hE : Env ts L E W g s) => pword_any wDefault hE
    generalize (takeT ts (wdB wDefault) s).2 = s2 at *
    dsimp only at *
    have h_ := h
    clear hD hT h
    go_enter Tryz.func35, Tryz.ntmps35
    go_wp2_with (first
      | (go_at_call 55; (with_reducible refine cA.mono ?_); rintro e w1 ⟨rfl, hb1⟩)
      | (go_at_call 36; (with_reducible refine (cW _ (h_.gr hb1)).mono ?_); rintro e w2 ⟨⟨v2, rfl⟩, hm2⟩))
    go_ret
    exact ⟨rfl, MadeR.after hb1 hm2⟩
set_option maxRecDepth 100000 in
set_option maxHeartbeats 2000000 in
theorem pact_any_ (h : Env ts L E w g s) : Calls Tryz.prog 38 #[.pointer (some ⟨g, 0, none⟩)] w fun e w' => e = .returned (.int .i64 (actD ts s).1) ∧ MadeR ts L E w g (actD ts s).2 w' := by
  have hgl := h.lt
  have hGA := Gr.alloc w (.cells #[.string wDestroy, .string wReview] 9)
  have hBs := Blk.new w 9 #[.string wDestroy, .string wReview]
  have cA := pahead_any wDestroy (h.gr hGA)
  have cA2 := fun W (hE : Env ts L E W g s) => pahead_any wReview hE
  have cW1 := fun W (hE : Env ts L E W g s) => pword_any wDestroy hE
  have cW2 := fun W (hE : Env ts L E W g s) => pword_any wReview hE
  have cW3 := fun W (hE : Env ts L E W g s) => pword_any wKeep hE
  have hD : actD ts s = if isT ts (wdB wDestroy) s then (1, (takeT ts (wdB wDestroy) s).2) else if isT ts (wdB wReview) s then (2, (takeT ts (wdB wReview) s).2) else (3, (takeT ts (wdB wKeep) s).2) := rfl
  generalize (takeT ts (wdB wDestroy) s).2 = s1 at *
  generalize (takeT ts (wdB wReview) s).2 = s2 at *
  generalize (takeT ts (wdB wKeep) s).2 = s3 at *
  generalize isT ts (wdB wDestroy) s = b1 at *
  generalize isT ts (wdB wReview) s = b2 at *
  rw [hD]
  have h_ := h
  clear hD h
  cases b1
  case' false => cases b2
  all_goals
    simp only [Bool.false_eq_true, if_false, if_true]
    go_enter Tryz.func38, Tryz.ntmps38
    go_wp2
    refine wp_loop_rounds 3 ?_
    rw [rounds_succ]
    obtain ⟨t0, u0⟩ : (w.alloc (.cells #[.string wDestroy, .string wReview] 9)).cell? ⟨w.heap.size, 0, none⟩ = some (.string wDestroy) ∧ (w.alloc (.cells #[.string wDestroy, .string wReview] 9)).cell? ⟨w.heap.size, 1, none⟩ = some (.string wReview) := ⟨hBs.cell 0, hBs.cell 1⟩
    go_wp2_with (first
      | (go_at_call 55; (with_reducible refine cA.mono ?_); rintro e w1 ⟨rfl, hb1⟩
         have hB1 := hBs.below hb1 hBs.lt
         have t1 := hB1.cell 0
         have u1 := hB1.cell 1)
      | (go_at_call 36; (with_reducible refine (cW1 _ ((h_.gr hGA).gr hb1)).mono ?_); rintro e w2 ⟨⟨v2, rfl⟩, hm2⟩))
    first
    | (go_ret; exact ⟨rfl, MadeR.after (Gr.trans hGA hb1) hm2⟩)
    | (rw [rounds_succ]
       go_wp2_with (first
         | (go_at_call 55; (with_reducible refine (cA2 _ ((h_.gr hGA).gr hb1)).mono ?_); rintro e w3 ⟨rfl, hb3⟩
            have hB3 := hB1.below hb3 hB1.lt
            have t3 := hB3.cell 0
            have u3 := hB3.cell 1)
         | (go_at_call 36; (with_reducible refine (cW2 _ (((h_.gr hGA).gr hb1).gr hb3)).mono ?_); rintro e w4 ⟨⟨v2, rfl⟩, hm4⟩))
       first
       | (go_ret; exact ⟨rfl, MadeR.after (Gr.trans (Gr.trans hGA hb1) hb3) hm4⟩)
       | (rw [rounds_succ]
          go_wp2_with (go_at_call 36; (with_reducible refine (cW3 _ (((h_.gr hGA).gr hb1).gr hb3)).mono ?_); rintro e w4 ⟨⟨v2, rfl⟩, hm4⟩)
          go_ret
          exact ⟨rfl, MadeR.after (Gr.trans (Gr.trans hGA hb1) hb3) hm4⟩))
/-- What a method that reads a rule makes. -/
def PRu (ts : List Tk) (L : Value) (E : Int) (w : World) (g : Nat) (o : Ru × Pst) (e : Ending) (w' : World) : Prop :=
  ∃ (o_ d_ : Int) (m_ : ByteArray) (A_ : Option Addr) (n_ c_ : Nat) (cl : ByteArray) (x : Ex) (ac : Int), e = .returned (.agg #[.string cl, .int .i64 o_, .int .i64 d_, .string m_, .slice A_ n_ c_, .int .i64 ac]) ∧ cl.size ≤ 600 ∧ RdEx w' (fun b => w.heap.size ≤ b ∧ b < w'.heap.size) x (.agg (exC o_ d_ m_ A_ n_ c_)) ∧ (o.2.err = 0 → (⟨cl, x, ac⟩ : Ru) = o.1) ∧ MadeR ts L E w g o.2 w'
abbrev ruC (cl : ByteArray) (o d : Int) (m : ByteArray) (A : Option Addr) (n c : Nat) (ac : Int) : Array Value := #[.string cl, .int .i64 o, .int .i64 d, .string m, .slice A n c, .int .i64 ac]
theorem set6_far {W : World} {r : Nat} {p : Addr} (h : p.block ≠ r) (y0 y1 y2 y3 y4 y5 : Value) : (set6w W r y0 y1 y2 y3 y4 y5).cell? p = W.cell? p := by
  unfold set6w World.cell?
  rw [Below.heap_setCell _ _ _ _ (by simpa using h), Below.heap_setCell _ _ _ _ (by simpa using h), Below.heap_setCell _ _ _ _ (by simpa using h), Below.heap_setCell _ _ _ _ (by simpa using h), Below.heap_setCell _ _ _ _ (by simpa using h), Below.heap_setCell _ _ _ _ (by simpa using h)]
theorem MadeR.set6 {w1 : World} {s1 : Pst} (h : MadeR ts L E w g s1 w1) (hg : g < w.heap.size) {r : Nat} (hr : w.heap.size ≤ r) (y0 y1 y2 y3 y4 y5 : Value) : MadeR ts L E w g s1 (set6w w1 r y0 y1 y2 y3 y4 y5) :=
  (((((h.far hg hr y0).far hg hr y1).far hg hr y2).far hg hr y3).far hg hr y4).far hg hr y5
abbrev set4at1 (w : World) (g : Nat) (y0 y1 y2 y3 : Value) : World := (((w.setCell ⟨g, 1, none⟩ y0).setCell ⟨g, 2, none⟩ y1).setCell ⟨g, 3, none⟩ y2).setCell ⟨g, 4, none⟩ y3
theorem MadeR.set4at1 {w1 : World} {s1 : Pst} (h : MadeR ts L E w g s1 w1) (hg : g < w.heap.size) {r : Nat} (hr : w.heap.size ≤ r) (y0 y1 y2 y3 : Value) : MadeR ts L E w g s1 (set4at1 w1 r y0 y1 y2 y3) :=
  (((h.far hg hr y0).far hg hr y1).far hg hr y2).far hg hr y3
theorem Blk.put4at1 {w : World} {g : Nat} {T : TypeId} {x0 x1 x2 x3 x4 x5 y1 y2 y3 y4 : Value} (h : Blk w g T #[x0, x1, x2, x3, x4, x5]) : Blk (set4at1 w g y1 y2 y3 y4) g T #[x0, y1, y2, y3, y4, x5] := by
  simpa using (((h.set_ 1 y1).set_ 2 y2).set_ 3 y3).set_ 4 y4
theorem Blk.far4at1 {w : World} {g b : Nat} {T : TypeId} {cs : Array Value} {y1 y2 y3 y4 : Value} (h : Blk w b T cs) (hn : b ≠ g) : Blk (set4at1 w g y1 y2 y3 y4) b T cs := (((h.far hn _).far hn _).far hn _).far hn _
theorem cell_far {W : World} {p q : Addr} (h : p.block ≠ q.block) (v : Value) : (W.setCell q v).cell? p = W.cell? p := by
  unfold World.cell?
  rw [Below.heap_setCell _ _ _ _ h]
theorem set4at1_far {W : World} {r : Nat} {p : Addr} (h : p.block ≠ r) (y0 y1 y2 y3 : Value) : (set4at1 W r y0 y1 y2 y3).cell? p = W.cell? p := by
  unfold set4at1
  rw [cell_far h, cell_far h, cell_far h, cell_far h]
set_option maxRecDepth 100000 in
set_option maxHeartbeats 4000000 in
theorem pone_any (h : Env ts L E w g s) : Calls Tryz.prog 23 #[.pointer (some ⟨g, 0, none⟩)] w (PRu ts L E w g (ruleD ts s)) := by
  have hgl := h.lt
  have hsm := h.small
  have hGA := Gr.trans (Gr.alloc w (.cells (ruC ⟨#[]⟩ 0 0 ⟨#[]⟩ none 0 0 0) 47)) (Gr.alloc _ (.cells (ruC ⟨#[]⟩ 0 0 ⟨#[]⟩ none 0 0 0) 47))
  obtain ⟨W0, hW0⟩ : ∃ W0, (w.alloc (.cells (ruC ⟨#[]⟩ 0 0 ⟨#[]⟩ none 0 0 0) 47)).alloc (.cells (ruC ⟨#[]⟩ 0 0 ⟨#[]⟩ none 0 0 0) 47) = W0 := ⟨_, rfl⟩
  have hB2 : Blk W0 w.heap.size 47 (ruC ⟨#[]⟩ 0 0 ⟨#[]⟩ none 0 0 0) := by rw [← hW0]; exact (Blk.new w _ _).alloc _
  have hB3 : Blk W0 (w.heap.size + 1) 47 (ruC ⟨#[]⟩ 0 0 ⟨#[]⟩ none 0 0 0) := by
    rw [← hW0]
    have := Blk.new (w.alloc (.cells (ruC ⟨#[]⟩ 0 0 ⟨#[]⟩ none 0 0 0) 47)) 47 (ruC ⟨#[]⟩ 0 0 ⟨#[]⟩ none 0 0 0)
    rwa [show (w.alloc (.cells (ruC ⟨#[]⟩ 0 0 ⟨#[]⟩ none 0 0 0) 47)).heap.size = w.heap.size + 1 by simp] at this
  have hs2 : W0.heap.size = w.heap.size + 2 := by rw [← hW0]; simp
  rw [hW0] at hGA
  have cC := pclass_any (h.gr hGA)
  have hcl : (classD ts s).1.size ≤ 600 := by
    unfold classD
    split
    · exact take_small hsm _ _
    · exact Nat.zero_le _
  have cK := fun W (hE : Env ts L E W g (classD ts s).2) => pword_any wKeep hE
  have cX := fun W (hE : Env ts L E W g (takeT ts (wdB wKeep) (classD ts s).2).2) => pcond_any 8 W _ 1 (Nat.le_refl _) (by decide) hE
  have cT := fun W (hE : Env ts L E W g (condD ts 8 (takeT ts (wdB wKeep) (classD ts s).2).2).2) => pword_any wThen hE
  have cA := fun W (hE : Env ts L E W g (takeT ts (wdB wThen) (condD ts 8 (takeT ts (wdB wKeep) (classD ts s).2).2).2).2) => pact_any_ hE
  have cE := fun W (hE : Env ts L E W g (actD ts (takeT ts (wdB wThen) (condD ts 8 (takeT ts (wdB wKeep) (classD ts s).2).2).2).2).2) => pkind_any 6 hE
  have hD : ruleD ts s = (⟨(classD ts s).1, (condD ts 8 (takeT ts (wdB wKeep) (classD ts s).2).2).1, (actD ts (takeT ts (wdB wThen) (condD ts 8 (takeT ts (wdB wKeep) (classD ts s).2).2).2).2).1⟩, (takeT ts (kindB 6) (actD ts (takeT ts (wdB wThen) (condD ts 8 (takeT ts (wdB wKeep) (classD ts s).2).2).2).2).2).2) := rfl
  have hok : (takeT ts (kindB 6) (actD ts (takeT ts (wdB wThen) (condD ts 8 (takeT ts (wdB wKeep) (classD ts s).2).2).2).2).2).2.err = 0 → (condD ts 8 (takeT ts (wdB wKeep) (classD ts s).2).2).2.err = 0 := fun h0 => (take_goes ts _ _).ok ((actD_goes ts _).ok ((take_goes ts _ _).ok h0))
  rw [hD]
  clear hD
  generalize classD ts s = o1 at *
  obtain ⟨cl, s1⟩ := o1
  generalize (takeT ts (wdB wKeep) (cl, s1).2).2 = s2 at *
  unfold PX at cX
  generalize condD ts 8 s2 = o3 at *
  obtain ⟨xc, s3⟩ := o3
  generalize (takeT ts (wdB wThen) (xc, s3).2).2 = s4 at *
  generalize actD ts s4 = o5 at *
  obtain ⟨ac, s5⟩ := o5
  generalize takeT ts (kindB 6) (ac, s5).2 = o6 at *
  obtain ⟨⟨k6, x6, n6, a6⟩, s6⟩ := o6
  dsimp only [tkV] at *
  have HOK := Lib.hid hok
  have hfin : ∀ (W : World) (o_ d_ : Int) (m_ : ByteArray) (A_ : Option Addr) (n_ c_ : Nat) (x : Ex), RdEx W (fun b => w.heap.size + 2 ≤ b ∧ b < W.heap.size) x (.agg (exC o_ d_ m_ A_ n_ c_)) → (s3.err = 0 → x = xc) → MadeR ts L E w g s6 W →
      PRu ts L E w g (⟨cl, xc, ac⟩, s6) (.returned (.agg (ruC cl o_ d_ m_ A_ n_ c_ ac))) (set6w W w.heap.size (.string cl) (.int .i64 o_) (.int .i64 d_) (.string m_) (.slice A_ n_ c_) (.int .i64 ac)) := by
    intro W o_ d_ m_ A_ n_ c_ x hr he hm
    refine ⟨o_, d_, m_, A_, n_, c_, cl, x, ac, rfl, hcl, ?_, fun h0 => by rw [he (hok h0)], hm.set6 hgl (Nat.le_refl _) _ _ _ _ _ _⟩
    exact RdEx.mono (fun b hb => ⟨by omega, by simpa [set6w, World.setCell] using hb.2⟩) _ _ (RdEx.keep (fun p hp => set6_far (by omega) _ _ _ _ _ _) _ _ hr)
  have HF := Lib.hid hfin
  generalize PRu ts L E w g (⟨cl, xc, ac⟩, s6) = Post at *
  clear hok hfin h
  subst hW0
  go_enter Tryz.func23, Tryz.ntmps23
  go_wp2_with (first
    | (go_at_call 35; (with_reducible refine cC.mono ?_); rintro e w1 ⟨rfl, hm1⟩
       have hB2a := hB2.x hm1.2 (by omega)
       have hB3a := hB3.x hm1.2 (by omega)
       obtain ⟨r0, r1, r2, r3, r4, r5, q0, q1, q2, q3, q4, q5⟩ := six_all hB3a
       have hM1 := (MadeR.after hGA hm1).far hgl (p := ⟨w.heap.size + 1, 0, none⟩) (Nat.le_succ _) (.string cl)
       have hB3b : Blk (w1.setCell ⟨w.heap.size + 1, 0, none⟩ (.string cl)) (w.heap.size + 1) 47 (ruC cl 0 0 ⟨#[]⟩ none 0 0 0) := by simpa using hB3a.set_ 0 (.string cl)
       have hB2b := hB2a.far (p := ⟨w.heap.size + 1, 0, none⟩) (by show w.heap.size ≠ w.heap.size + 1; omega) (.string cl))
    | (go_at_call 36; (with_reducible refine (cK _ hM1.1).mono ?_); rintro e w2 ⟨⟨v2, rfl⟩, hm2⟩)
    | (go_at_call 37; (with_reducible refine (cX _ hm2.1).mono ?_); rintro e w3 ⟨o_, d_, m_, A_, n_, c_, x, rfl, hr3, he3, hm3⟩
       have hB2c := (hB2b.x hm2.2 (by omega)).x hm3.2 (by omega)
       have hB3c := (hB3b.x hm2.2 (by omega)).x hm3.2 (by omega)
       obtain ⟨r6, r7, r8, r9, r10, r11, q6, q7, q8, q9, q10, q11⟩ := six_all hB3c
       have hM3 := ((hM1.tr hm2).tr hm3).set4at1 hgl (r := w.heap.size + 1) (Nat.le_succ _) (.int .i64 o_) (.int .i64 d_) (.string m_) (.slice A_ n_ c_)
       have hw2 : w.heap.size + 2 ≤ w2.heap.size := by have h1 := hm1.2.size; have h2 := hm2.2.size; simp at h1 h2; omega)
    | (go_at_call 36; (with_reducible refine (cT _ hM3.1).mono ?_); rintro e w4 ⟨⟨v4, rfl⟩, hm4⟩)
    | (go_at_call 38; (with_reducible refine (cA _ hm4.1).mono ?_); rintro e w5 ⟨rfl, hm5⟩
       have hB2d := ((hB2c.far4at1 (g := w.heap.size + 1) (y1 := .int .i64 o_) (y2 := .int .i64 d_) (y3 := .string m_) (y4 := .slice A_ n_ c_) (by omega)).x hm4.2 (by omega)).x hm5.2 (by omega)
       have hB3d := ((hB3c.put4at1 (y1 := .int .i64 o_) (y2 := .int .i64 d_) (y3 := .string m_) (y4 := .slice A_ n_ c_)).x hm4.2 (by omega)).x hm5.2 (by omega)
       obtain ⟨r12, r13, r14, r15, r16, r17, q12, q13, q14, q15, q16, q17⟩ := six_all hB3d
       have hM5 := ((hM3.tr hm4).tr hm5).far hgl (p := ⟨w.heap.size + 1, 5, none⟩) (Nat.le_succ _) (.int .i64 ac)
       have hB3e : Blk (w5.setCell ⟨w.heap.size + 1, 5, none⟩ (.int .i64 ac)) (w.heap.size + 1) 47 (ruC cl o_ d_ m_ A_ n_ c_ ac) := by simpa using hB3d.set_ 5 (.int .i64 ac)
       have hB2e := hB2d.far (p := ⟨w.heap.size + 1, 5, none⟩) (by show w.heap.size ≠ w.heap.size + 1; omega) (.int .i64 ac))
    | (go_at_call 39; (with_reducible refine (cE _ hM5.1).mono ?_); rintro e w6 ⟨rfl, hm6⟩
       have hB2f := hB2e.x hm6.2 (by omega)
       have hB3f := hB3e.x hm6.2 (by omega)
       obtain ⟨r18, r19, r20, r21, r22, r23, q18, q19, q20, q21, q22, q23⟩ := six_all hB3f
       obtain ⟨r24, r25, r26, r27, r28, r29, q24, q25, q26, q27, q28, q29⟩ := six_all hB2f))
  obtain ⟨z0, z1, z2, z3, z4, z5, -⟩ := six_all (hB2f.put6 (y0 := .string cl) (y1 := .int .i64 o_) (y2 := .int .i64 d_) (y3 := .string m_) (y4 := .slice A_ n_ c_) (y5 := .int .i64 ac))
  refine bodyPost_ret (v := .agg (ruC cl o_ d_ m_ A_ n_ c_ ac)) (by simp [results, Tryz.results23, go_sem, z0, z1, z2, z3, z4, z5]) rfl (HF.out w6 o_ d_ m_ A_ n_ c_ x ?_ he3 (hM5.tr hm6))
  have hsz : w3.heap.size ≤ w6.heap.size := by
    have h4 := hm4.2.size
    have h5 := hm5.2.size
    have h6 := hm6.2.size
    simp [World.setCell] at h4 h5 h6
    omega
  refine RdEx.mono (fun b hb => ⟨by omega, by omega⟩) _ _ (RdEx.keep (fun p hp => ?_) _ _ hr3)
  have hl3 : p.block < (set4at1 w3 (w.heap.size + 1) (.int .i64 o_) (.int .i64 d_) (.string m_) (.slice A_ n_ c_)).heap.size := by simpa [set4at1, World.setCell] using hp.2
  have hl4 := Nat.lt_of_lt_of_le hl3 hm4.2.size
  have hl5 := Nat.lt_of_lt_of_le hl4 hm5.2.size
  have hgp : p.block ≠ g := by omega
  rw [grx_cell hm6.2 (by simpa [World.setCell] using hl5) hgp, cell_far (by show p.block ≠ w.heap.size + 1; omega), grx_cell hm5.2 hl4 hgp, grx_cell hm4.2 hl3 hgp, set4at1_far (by omega)]
theorem RsOwn.lt_ {base : Nat} {v : Value} {l : List Ru} {cs : List Value} (h : RsOwn base w v l cs) (k : Nat) (hk : w.heap.size ≤ k) : v.ownBlock ≠ some k := own_lt_ h.row k hk
theorem RsOwn.vform {base : Nat} {v : Value} {l : List Ru} {cs : List Value} (h : RsOwn base w v l cs) : ∃ A c, v = .slice A l.length c := by
  rcases h.row.2 with ⟨rfl, h0⟩ | ⟨g', cap, cur, rfl, _⟩
  · exact ⟨none, 0, by rw [h0]⟩
  · exact ⟨_, _, rfl⟩
/-- Where the loop of read stands. -/
def RdTo (ts : List Tk) (L : Value) (E : Int) (R : List Ru × Pst) (w : World) (g : Nat) (v : Value) (wr : World) : Prop :=
  ∃ (rs rs' : List Ru) (cs : List Value) (s : Pst) (n : Nat) (A : Option Addr) (c : Nat), v = .slice A rs'.length c ∧ RsOwn (g + 1) wr v rs' cs ∧ rs'.length = rs.length ∧ (s.err = 0 → rs' = rs) ∧ MadeR ts L E w g s wr ∧
    R = rulesD ts n rs s ∧ (s.err = 0 → ts.length < s.pos + n) ∧ rs.length + n ≤ ts.length + 1
theorem rulesD_step {n : Nat} {out : List Ru} (he : s.err = 0) (hp : s.pos < ts.length) (hn : s.err = 0 → ts.length < s.pos + n) :
    ∃ n', n = n' + 1 ∧ rulesD ts n out s = rulesD ts n' (out ++ [(ruleD ts s).1]) (ruleD ts s).2 ∧ ((ruleD ts s).2.err = 0 → ts.length < (ruleD ts s).2.pos + n') := by
  have := hn he
  match n, this with
  | 0, this => omega
  | n' + 1, this =>
    refine ⟨n', rfl, by rw [rulesD, if_pos ⟨he, hp⟩], fun e => ?_⟩
    have h := rule_moves ts s e
    omega
theorem rulesD_end {n : Nat} {out : List Ru} (h : ¬ (s.err = 0 ∧ s.pos < ts.length)) : rulesD ts n out s = (out, s) := by
  cases n with
  | zero => rfl
  | succ n => rw [rulesD, if_neg h]
end
end Go.Proofs.YtogpmihepfnoaaaGreatDoor

namespace Go.Proofs.YtogpmihepfnoaaaGreatDoor
open Go Go.RowKit Go.Sort

theorem lexOne_small (l : List UInt8) : (lexOne l).1.text.size ≤ l.length := by
  cases l with
  | nil => exact Nat.zero_le _
  | cons c r =>
    have hz : (Tk.zero).text.size ≤ (c :: r).length := Nat.zero_le _
    have hb : ∀ q : List UInt8, (ba q).size = q.length := fun q => ba_size q
    have h1 : ∀ k, (ba ((c :: r).take k)).size ≤ (c :: r).length := fun k => by rw [hb]; exact List.length_take_le' _ _
    have h2 : ∀ k, (ba (r.take k)).size ≤ (c :: r).length := fun k => by rw [hb, List.length_cons]; have := List.length_take_le' k r; omega
    have h3 : (ba [c]).size ≤ (c :: r).length := by rw [hb]; simp
    rcases lex_ways c with h | h | h | h | h | h | ⟨g1, g2, g3, g4, g5, g6⟩
    · rw [lexOne_40 h]; exact h3
    · rw [lexOne_41 h]; exact h3
    · rw [lexOne_59 h]; exact h3
    · rw [lexOne_low h]; exact h1 _
    · rw [lexOne_quote h]
      split
      · exact h2 _
      · exact hz
    · rw [lexOne_dig h]
      split
      · split
        · exact h1 _
        · exact hz
      · exact hz
    · rw [lexOne_other g1 g2 g3 g4 g5 g6]; exact hz
theorem lexR_small_n : ∀ (n : Nat) (l : List UInt8) (i : Nat), l.length ≤ n → ∀ t ∈ (lexR l i).1, t.text.size ≤ l.length
  | _, [], i, _ => by rw [lexR_nil]; intro t ht; cases ht
  | 0, _ :: _, _, h => by simp at h
  | n + 1, c :: r, i, h => by
    rw [List.length_cons] at h ⊢
    cases hb : blankB c with
    | true =>
      rw [lexR_blank hb]
      intro t ht
      have := lexR_small_n n r (i + 1) (by omega) t ht
      omega
    | false =>
      by_cases h2 : c.toNat = 35
      · have hd := dropWhile_le nlB r
        rw [lexR_remark hb h2]
        intro t ht
        have := lexR_small_n n (r.dropWhile nlB) (i + 1 + runL nlB r) (by omega) t ht
        omega
      · by_cases h3 : (lexOne (c :: r)).2.2 = 0
        · have ih := lexR_small_n n (r.drop ((lexOne (c :: r)).2.1 - 1)) (i + (lexOne (c :: r)).2.1) (by rw [List.length_drop]; omega)
          rw [List.length_drop] at ih
          have h1 := lexOne_small (c :: r)
          rw [lexR_tok hb h2, if_pos h3]
          split
          · intro t ht
            rw [List.mem_cons] at ht
            rcases ht with rfl | ht
            · exact h1
            · have := ih t ht
              omega
          · intro t ht; cases ht
        · rw [lexR_tok hb h2, if_neg h3]; intro t ht; cases ht
theorem lexAll_small_ (l : List UInt8) : ∀ t ∈ (lexAll l).1, t.text.size ≤ 600 := by
  unfold lexAll
  split
  · intro t ht; cases ht
  · rename_i h
    intro t ht
    have := lexR_small_n l.length l 0 (Nat.le_refl _) t ht
    omega
theorem gr_of_x {w W wr : World} {g : Nat} (hG : Gr w W) (hx : GrX W wr g) (h : w.heap.size ≤ g) : Gr w wr :=
  ⟨hx.os.trans hG.os, hx.tape.trans hG.tape, hx.output.trans hG.output, Nat.le_trans hG.size hx.size, fun k hk => (hx.block k (Nat.lt_of_lt_of_le hk hG.size) (by intro e; injection e with e; omega)).trans (hG.block k hk)⟩
theorem RdTo.start {ts : List Tk} {L : Value} {E : Int} {R : List Ru × Pst} {w : World} {g : Nat} {s : Pst} (h : Env ts L E w g s) (hR : rulesD ts (ts.length + 1) [] s = R) : RdTo ts L E R w g (.slice none 0 0) w :=
  ⟨[], [], [], s, ts.length + 1, none, 0, rfl, RsOwn.nil _ _, rfl, fun _ => rfl, MadeR.refl h, hR.symm, fun _ => by omega, by simp⟩
set_option maxRecDepth 100000 in
set_option maxHeartbeats 8000000 in
theorem pread_any (s : ByteArray) (fuel : Int) (w : World) (hP : Pow w) (hE : Errs w) (hm : s.size ≤ maxLen) (h1 : -9223372036854775808 ≤ fuel) (h2 : fuel ≤ 9223372036854775807) : Calls Tryz.prog 14 #[.string s, .int .i64 fuel] w fun e w' =>
    ∃ v, e = .returned (.tuple #[v, .int .i64 (readD s.data.toList fuel).2.1, .int .i64 (readD s.data.toList fuel).2.2.1, .int .i64 (readD s.data.toList fuel).2.2.2]) ∧ RdRus w' (· < w'.heap.size) v (readD s.data.toList fuel).1 ∧ Gr w w' := by
  have cL := all_any s w hP hE hm
  have hlen := lexAll_len s.data.toList
  have hsm := lexAll_small_ s.data.toList
  have hsz : s.data.toList.length = s.size := by rw [Array.length_toList]; rfl
  have hD : readD s.data.toList fuel = if (lexAll s.data.toList).2.2 ≠ 0 then ([], ((lexAll s.data.toList).2.1 : Int), 0, (lexAll s.data.toList).2.2) else
    if (rulesD (lexAll s.data.toList).1 ((lexAll s.data.toList).1.length + 1) [] ⟨0, fuel, 0⟩).2.err ≠ 0 then ([], hereD (lexAll s.data.toList).1 s.data.toList.length (rulesD (lexAll s.data.toList).1 ((lexAll s.data.toList).1.length + 1) [] ⟨0, fuel, 0⟩).2, 0, (rulesD (lexAll s.data.toList).1 ((lexAll s.data.toList).1.length + 1) [] ⟨0, fuel, 0⟩).2.err) else
    if checkD (rulesD (lexAll s.data.toList).1 ((lexAll s.data.toList).1.length + 1) [] ⟨0, fuel, 0⟩).1 ≠ 0 then ([], 0, 0, checkD (rulesD (lexAll s.data.toList).1 ((lexAll s.data.toList).1.length + 1) [] ⟨0, fuel, 0⟩).1) else ((rulesD (lexAll s.data.toList).1 ((lexAll s.data.toList).1.length + 1) [] ⟨0, fuel, 0⟩).1, (s.data.toList.length : Int), (rulesD (lexAll s.data.toList).1 ((lexAll s.data.toList).1.length + 1) [] ⟨0, fuel, 0⟩).2.fuel, 0) := rfl
  generalize readD s.data.toList fuel = D at *
  generalize lexAll s.data.toList = X at *
  obtain ⟨ts, at_, e⟩ := X
  rw [hsz] at hD
  dsimp only at *
  unfold maxLen at hm
  by_cases he : e = 0
  · subst he
    rw [if_neg (by simp)] at hD
    obtain ⟨R, hR⟩ : ∃ R, rulesD ts (ts.length + 1) [] ⟨0, fuel, 0⟩ = R := ⟨_, rfl⟩
    rw [hR] at hD
    have HR := Lib.hid hR
    have HD := Lib.hid hD
    have HSM := Lib.hid hsm
    clear hR hD hP hE hsm hsz
    go_enter Tryz.func14, Tryz.ntmps14
    go_wp2_with (go_at_call 21; (with_reducible refine cL.mono ?_); rintro e w1 ⟨L, rfl, hL1, hb1⟩; obtain ⟨AL, cL_, rfl, hcL⟩ := hL1.form)
    obtain ⟨W2, hW2⟩ : ∃ W2, w1.alloc (.cells #[.slice AL ts.length cL_, .int .i64 0, .int .i64 (s.size : Int), .int .i64 fuel, .int .i64 0] 58) = W2 := ⟨_, rfl⟩
    have hG2 : Gr w1 W2 := by rw [← hW2]; exact Gr.alloc _ _
    have hs2 : W2.heap.size = w1.heap.size + 1 := by rw [← hW2]; simp
    have hE2 : Env ts (.slice AL ts.length cL_) s.size W2 w1.heap.size ⟨0, fuel, 0⟩ := by
      refine ⟨?_, hL1.gr (Nat.le_refl _) hG2, Nat.zero_le _, hlen, h1, h2, HSM.out⟩
      rw [← hW2]
      exact Blk.new _ _ _
    have hst := RdTo.start hE2 HR.out
    obtain ⟨g, hg⟩ : ∃ g, w1.heap.size = g := ⟨_, rfl⟩
    rw [hW2, hg]
    rw [hg] at hE2 hst hs2
    have hgl : g < W2.heap.size := by omega
    have hwg : w.heap.size ≤ g := by rw [← hg]; exact hb1.size
    have hG0 : Gr w W2 := Gr.trans hb1 hG2
    clear hL1 hW2 hG2 hE2 cL
    go_loopw [12] (fun v12 wr => RdTo ts (.slice AL ts.length cL_) s.size R W2 g v12 wr) (fun v12 _ => 700 - slLen v12)
    case atStart => exact hst
    case round =>
      clear hst
      obtain ⟨rs, rs', cs, s_, n, A, c, rfl, hX, hkl, hke, hm, hRe, hn, hkn⟩ := hrel
      obtain ⟨c0, c1, c2, c3, c4, f1, f3, f4⟩ := hm.1.cells
      have hpl := hm.1.pos
      by_cases he : s_.err = 0
      · have cO := fun n => pok_yes (hm.1.gr (Gr.drewN _ n)) he
        by_cases hp : s_.pos < ts.length
        · obtain ⟨n', rfl, hst2, hn2⟩ := rulesD_step (out := rs) he hp hn
          rw [hst2] at hRe
          have hp1 : (s_.pos : Int) < (ts.length : Int) := by omega
          have hd1 : decide (s_.pos < ts.length) = true := decide_eq_true hp
          have cR := fun n => pone_any (hm.1.gr (Gr.drewN _ n))
          unfold PRu at cR
          generalize ruleD ts s_ = o at *
          obtain ⟨⟨cl2, x2, ac2⟩, s3⟩ := o
          dsimp only at *
          have hkb : rs'.length ≤ 100000 := by omega
          have HRe := Lib.hid hRe
          have HKE := Lib.hid (fun (_ : s3.err = 0) => hke he)
          have HN := Lib.hid hn2
          have HKL := Lib.hid hkl
          clear hRe hke hn2 hn hst2 hkl he
          go_wp2
          go_quiet ((go_at_call 22; exact quiet_sm_ (cO _)))
          have hXn := hX.gr (Gr.drewN wr nq)
          have hMn := hm.gr (Gr.drewN wr nq)
          have cRn := cR nq
          have hgw : g < (wr.drewN nq).heap.size := hMn.1.lt
          clear cO c0 c1 c2 c3 c4 f1 f3 f4 cR hX hm hd1
          generalize wr.drewN nq = wq at *
          go_wp2_with (first
            | (go_at_call 23; (with_reducible refine cRn.mono ?_); rintro e w3 ⟨o_, d_, m_, A_, n_, c_, cl, x, ac, rfl, hcl, hr3, he3, hm3⟩
               have hGn := Gr.alloc w3 (.cells (ruC cl o_ d_ m_ A_ n_ c_ ac) 47)
               have hBn := Blk.new w3 47 (ruC cl o_ d_ m_ A_ n_ c_ ac)
               have hM4 := (hMn.tr hm3).gr hGn
               have hX4 := (hXn.x hm3.2 (by omega)).gr hGn
               have hw3 := hm3.2.size
               have hle4 : g + 1 ≤ (w3.alloc (.cells (ruC cl o_ d_ m_ A_ n_ c_ ac) 47)).heap.size := by have h5 := hGn.size; omega)
            | (at_builtin
               go_loud (refine wpList_appendR _ rfl (.tmp 44) (.tmp 47) rfl (g + 1) _ rs' cs rfl hX4 ⟨cl, x, ac⟩ o_ d_ m_ A_ n_ c_ _ rfl hBn (by show cl.size ≤ 140737488351232; omega) ?_ hkb hle4 ?_)
               · exact RdEx.mono (fun b hb => ⟨by omega, Nat.lt_of_lt_of_le hb.2 hGn.size, own_lt_ hXn.row b hb.1⟩) _ _ (RdEx.keep (fun p hp => hGn.cell hp.2) _ _ hr3)
               intro v6 w6 hX6 hb6
               obtain ⟨A6, c6, hv6⟩ := hX6.vform
               rw [List.length_append, List.length_singleton] at hv6
               subst hv6))
          go_roundw
          case rel => exact ⟨rs ++ [⟨cl2, x2, ac2⟩], rs' ++ [⟨cl, x, ac⟩], _, s3, n', A6, c6, by simp, hX6, by simp [HKL.out], fun h0 => by rw [he3 h0, HKE.out h0], hM4.below hgl (by omega) hb6, HRe.out, HN.out, by simp; omega⟩
          case measure => simp [slLen]; have := HKL.out; omega
        · have hp' : s_.pos = ts.length := by omega
          have he0 := hke he
          subst he0
          rw [rulesD_end (by omega)] at hRe
          subst hRe
          have hD2 := HD.out
          dsimp only at hD2
          rw [if_neg (by simp [he])] at hD2
          have hRdR := hX.rd.mono (K' := (· < wr.heap.size)) fun b hb => hb.2
          rw [hp'] at c1
          have hMW : GrX W2 wr g := hm.2
          have hd1 : decide (ts.length < s_.pos) = false := decide_eq_false (by omega)
          have hEq := hm.1
          clear hX hke hn hp hp' hpl
          go_wp2
          go_quiet ((go_at_call 22; exact quiet_sm_ (cO _)))
          have hRq := hRdR.gr (Gr.drewN wr nq)
          have hEn := hEq.gr (Gr.drewN wr nq)
          have hMq := GrX.tr hMW (GrX.of_gr (Gr.drewN wr nq) g)
          clear cO c0 c1 c2 c3 c4 f1 f3 f4 hRdR hMW hEq hm
          generalize wr.drewN nq = wq at *
          have cC := pcheck_any rs' _ wq hRq
          generalize hq : checkD rs' = q at *
          have hgq := gr_of_x hG0 hMq hwg
          by_cases hq0 : q = 0
          · subst hq0
            rw [if_neg (by simp)] at hD2
            have HD2 := Lib.hid hD2
            have HEr := Lib.hid he
            clear hD2 HD HR he hq
            go_wp2_with (first
              | (go_at_call 22; (with_reducible refine (pok_yes hEn HEr.out).mono ?_); rintro e w4 ⟨rfl, rfl⟩)
              | (go_at_call 25; (with_reducible refine cC.mono ?_); rintro e w5 ⟨rfl, hb5⟩
                 obtain ⟨k0, k1, k2, k3, k4, -⟩ := (hEn.gr hb5).cells))
            go_quiet (fail)
            go_wp2
            refine bodyPost_ret (v := .tuple #[.slice A rs'.length c, .int .i64 (s.size : Int), .int .i64 s_.fuel, .int .i64 0]) (by simp [results, Tryz.results14, go_sem]) rfl ⟨.slice A rs'.length c, ?_, ?_, Gr.trans (Gr.trans hgq hb5) (Gr.drewN _ _)⟩
            · rw [HD2.out]
            · rw [HD2.out]; exact hRq.gr (Gr.trans hb5 (Gr.drewN _ _))
          · rw [if_pos hq0] at hD2
            have e1 : (q != 0) = true := by simp [hq0]
            have HD2 := Lib.hid hD2
            have HEr := Lib.hid he
            clear hD2 HD HR he hq hq0
            go_wp2_with (first
              | (go_at_call 22; (with_reducible refine (pok_yes hEn HEr.out).mono ?_); rintro e w4 ⟨rfl, rfl⟩)
              | (go_at_call 25; (with_reducible refine cC.mono ?_); rintro e w5 ⟨rfl, hb5⟩))
            refine bodyPost_ret (v := .tuple #[.slice none 0 0, .int .i64 0, .int .i64 0, .int .i64 q]) (by simp [results, Tryz.results14, go_sem]) rfl ⟨.slice none 0 0, ?_, ?_, Gr.trans hgq hb5⟩
            · rw [HD2.out]
            · rw [HD2.out]; exact RdRus.nil _ _
      · have cO := fun n => pok_no (hm.1.gr (Gr.drewN _ n)) he
        rw [rulesD_end (by omega)] at hRe
        subst hRe
        have hD2 := HD.out
        dsimp only at hD2
        rw [if_pos he] at hD2
        have hMW : GrX W2 wr g := hm.2
        have hEq := hm.1
        have HER := Lib.hid he
        clear hX hke hn hkl hkn he hpl
        go_wp2
        go_quiet ((go_at_call 22; exact quiet_sm_ (cO _)))
        have hEn := hEq.gr (Gr.drewN wr nq)
        have hMq := GrX.tr hMW (GrX.of_gr (Gr.drewN wr nq) g)
        clear cO c0 c1 c2 c3 c4 f1 f3 f4 hMW hEq hm
        generalize wr.drewN nq = wq at *
        have hgq := gr_of_x hG0 hMq hwg
        obtain ⟨k0, k1, k2, k3, k4, -⟩ := hEn.cells
        have cH := fun n => phere_any (hEn.gr (Gr.drewN wq n))
        have HD2 := Lib.hid hD2
        clear hD2 HD HR
        generalize hereD ts s.size s_ = hr at *
        go_wp2_with (go_at_call 22; (with_reducible refine (pok_no hEn HER.out).mono ?_); rintro e w4 ⟨rfl, rfl⟩)
        go_quiet ((go_at_call 24; exact Calls.quiet_of (cH _)))
        go_wp2
        refine bodyPost_ret (v := .tuple #[.slice none 0 0, .int .i64 hr, .int .i64 0, .int .i64 s_.err]) (by simp [results, Tryz.results14, go_sem]) rfl ⟨.slice none 0 0, ?_, ?_, Gr.trans hgq (Gr.drewN _ _)⟩
        · rw [HD2.out]
        · rw [HD2.out]; exact RdRus.nil _ _
  · rw [if_pos he] at hD
    have e1 : (e != 0) = true := by simp [he]
    have HD := Lib.hid hD
    clear hD hP hE
    go_enter Tryz.func14, Tryz.ntmps14
    go_wp2_with (go_at_call 21; (with_reducible refine cL.mono ?_); rintro e w1 ⟨L, rfl, hL1, hb1⟩)
    refine bodyPost_ret (v := .tuple #[.slice none 0 0, .int .i64 (at_ : Int), .int .i64 0, .int .i64 e]) (by simp [results, Tryz.results14, go_sem]) rfl ⟨.slice none 0 0, ?_, ?_, hb1⟩
    · rw [HD.out]
    · rw [HD.out]; exact RdRus.nil _ _
end Go.Proofs.YtogpmihepfnoaaaGreatDoor

namespace Go.Proofs.YtogpmihepfnoaaaGreatDoor
open Go Go.RowKit Go.Sort

/-- What is left. -/
theorem readD_left (l : List UInt8) (fuel : Int) (h : 0 ≤ fuel) : 0 ≤ (readD l fuel).2.2.1 ∧ (readD l fuel).2.2.1 ≤ fuel := by
  have g := rulesD_goes (lexAll l).1 ((lexAll l).1.length + 1) [] ⟨0, fuel, 0⟩
  have g1 := g.fuel
  have g2 := g.nn h
  dsimp only at g1 g2
  unfold readD
  dsimp only
  split
  · exact ⟨Int.le_refl 0, h⟩
  · split
    · exact ⟨Int.le_refl 0, h⟩
    · split
      · exact ⟨Int.le_refl 0, h⟩
      · exact ⟨g2, g1⟩
/-- How much fuel a text needs. -/
def costD (l : List UInt8) : Int × Int := if (readD l 2147483647).2.2.2 ≠ 0 then (0, (readD l 2147483647).2.2.2) else (2147483647 - (readD l 2147483647).2.2.1, 0)
theorem readD_run (l : List UInt8) (fuel : Int) : readD l fuel = if (lexAll l).2.2 ≠ 0 then ([], ((lexAll l).2.1 : Int), 0, (lexAll l).2.2) else
    if (runP (lexAll l).1 fuel).2.err ≠ 0 then ([], hereD (lexAll l).1 l.length (runP (lexAll l).1 fuel).2, 0, (runP (lexAll l).1 fuel).2.err) else
    if checkD (runP (lexAll l).1 fuel).1 ≠ 0 then ([], 0, 0, checkD (runP (lexAll l).1 fuel).1) else ((runP (lexAll l).1 fuel).1, (l.length : Int), (runP (lexAll l).1 fuel).2.fuel, 0) := rfl
theorem checkD_14 (rs : List Ru) : checkD rs ≠ 14 := by
  unfold checkD
  split
  · omega
  · split
    · split <;> omega
    · omega
/-- With as much fuel as it costs, or more, it is the same; with less there is not enough. -/
theorem cost_law {l : List UInt8} {n : Int} (h : costD l = (n, 0)) :
    0 ≤ n ∧ n ≤ 2147483647 ∧ ∃ rs, (∀ more, 0 ≤ more → (readD l (n + more)).1 = rs ∧ (readD l (n + more)).2.1 = (l.length : Int) ∧ (readD l (n + more)).2.2.2 = 0) ∧ ∀ less, 1 ≤ less → less ≤ n → (readD l (n - less)).1 = [] ∧ (readD l (n - less)).2.2.2 = 14 := by
  have hleft := readD_left l 2147483647 (by decide)
  unfold costD at h
  by_cases he : (readD l 2147483647).2.2.2 = 0
  · rw [if_neg (by omega)] at h
    injection h with h _
    have hr := readD_run l 2147483647
    by_cases h0 : (lexAll l).2.2 = 0
    · rw [if_neg (by omega)] at hr
      by_cases h1 : (runP (lexAll l).1 2147483647).2.err = 0
      · rw [if_neg (by omega)] at hr
        by_cases h2 : checkD (runP (lexAll l).1 2147483647).1 = 0
        · rw [if_neg (by omega)] at hr
          rw [hr] at h hleft
          dsimp only at h hleft
          have hc := run_cost h1 rfl hleft.1
          refine ⟨by omega, by omega, (runP (lexAll l).1 2147483647).1, fun more hm => ?_, fun less l1 l2 => ?_⟩
          · obtain ⟨c1, c2⟩ := hc.1 more hm
            rw [h] at c1 c2
            rw [readD_run, if_neg (by omega), if_neg (by omega), c1, if_neg (by omega)]
            exact ⟨rfl, rfl, rfl⟩
          · have c2 := hc.2 less l1 (by omega)
            rw [h] at c2
            rw [readD_run, if_neg (by omega), c2, if_pos (by decide)]
            exact ⟨rfl, rfl⟩
        · rw [if_pos (by omega)] at hr
          rw [hr] at he
          exact absurd he h2
      · rw [if_pos (by omega)] at hr
        rw [hr] at he
        exact absurd he h1
    · rw [if_pos (by omega)] at hr
      rw [hr] at he
      exact absurd he h0
  · rw [if_pos (by omega)] at h
    injection h with _ h
    exact absurd h he
set_option maxRecDepth 100000 in
theorem prules_any (s : ByteArray) (fuel : Int) (w : World) (hP : Pow w) (hE : Errs w) (hm : s.size ≤ maxLen) (h1 : -9223372036854775808 ≤ fuel) (h2 : fuel ≤ 9223372036854775807) : Calls Tryz.prog 6 #[.string s, .int .i64 fuel] w fun e w' =>
    ∃ v, e = .returned (.tuple #[v, .int .i64 (readD s.data.toList fuel).2.1, .int .i64 (readD s.data.toList fuel).2.2.2]) ∧ RdRus w' (· < w'.heap.size) v (readD s.data.toList fuel).1 ∧ Gr w w' := by
  have cR := pread_any s fuel w hP hE hm h1 h2
  generalize readD s.data.toList fuel = D at *
  obtain ⟨rs, p, l, e⟩ := D
  dsimp only at *
  clear hP hE hm
  go_enter Tryz.func6, Tryz.ntmps6
  go_wp2_with (go_at_call 14; (with_reducible refine cR.mono ?_); rintro e w1 ⟨v, rfl, hr1, hb1⟩)
  exact bodyPost_ret (v := .tuple #[v, .int .i64 p, .int .i64 e]) (by simp [results, Tryz.results6, go_sem]) rfl ⟨v, rfl, hr1, hb1⟩
set_option maxRecDepth 100000 in
theorem pcost_any (s : ByteArray) (w : World) (hP : Pow w) (hE : Errs w) (hm : s.size ≤ maxLen) : Calls Tryz.prog 8 #[.string s] w fun e w' =>
    e = .returned (.tuple #[.int .i64 (costD s.data.toList).1, .int .i64 (costD s.data.toList).2]) ∧ Gr w w' := by
  have cR := pread_any s 2147483647 w hP hE hm (by decide) (by decide)
  have hl := readD_left s.data.toList 2147483647 (by decide)
  unfold costD
  generalize readD s.data.toList 2147483647 = D at *
  obtain ⟨rs, p, l, e⟩ := D
  dsimp only at *
  clear hP hE hm
  obtain ⟨hl0, hl1⟩ := hl
  by_cases he : e = 0
  · subst he
    rw [if_neg (by simp)]
    go_enter Tryz.func8, Tryz.ntmps8
    go_wp2_with (go_at_call 14; (with_reducible refine cR.mono ?_); rintro e w1 ⟨v, rfl, hr1, hb1⟩)
    go_ret2
    exact ⟨rfl, hb1⟩
  · have e1 : (e != 0) = true := by simp [he]
    rw [if_pos he]
    go_enter Tryz.func8, Tryz.ntmps8
    go_wp2_with (go_at_call 14; (with_reducible refine cR.mono ?_); rintro e w1 ⟨v, rfl, hr1, hb1⟩)
    go_ret2
    exact ⟨rfl, hb1⟩
/-! The page's example. -/
abbrev exTx : ByteArray := ⟨#[100, 101, 102, 97, 117, 108, 116, 32, 107, 101, 101, 112, 32, 50, 121, 32, 97, 102, 116, 101, 114, 32, 99, 108, 111, 115, 101, 100, 32, 116, 104, 101, 110, 32, 100, 101, 115, 116, 114, 111, 121, 59]⟩
def exRu : Ru := ⟨⟨#[]⟩, .mk 1 730 ⟨#[99, 108, 111, 115, 101, 100]⟩ [], 1⟩
theorem tx730_ : textD 730 = [50, 121] := by
  rw [textD, if_neg (by omega), if_neg (by omega), if_pos (by omega), show (730 : Int) / 365 = ((2 : Nat) : Int) by omega, one_itoa 2 (by omega)]; rfl
theorem exMay : mayX (.mk 1 730 ⟨#[99, 108, 111, 115, 101, 100]⟩ []) 24 8 = some 23 := by
  have m1 : mileD ⟨#[99, 108, 111, 115, 101, 100]⟩ = true := by decide
  rw [mayX_1 (by omega), if_pos ⟨by decide, by decide, m1, rfl⟩]
theorem exOk : okR exRu = true := by
  unfold okR exRu
  rw [exMay]
  rfl
theorem exCheck : checkD [exRu] = 0 := checkD_0 (by simp) (by simp [exOk]) (by simp)
theorem exSh : ShOf exTx.data.toList (shR exRu) := by
  have h1 := lx_act (n := 1) (brk_59 _) (shOf_59 shOf_nil)
  have h2 := shOf_known [116, 104, 101, 110] (by decide) (by simp) (brk_32 _) (shOf_blank (c := 32) (by decide) h1)
  have h3 := lx_X _ 24 8 23 exMay _ _ (brk_32 _) (shOf_blank (c := 32) (by decide) h2)
  have h4 := shOf_known [107, 101, 101, 112] (by decide) (by simp) (brk_32 _) (shOf_blank (c := 32) (by decide) h3)
  have h5 := lx_cls (c := ⟨#[]⟩) (.inl rfl) h4
  rw [exprL_1, tx730_] at h5
  have e2 : shR exRu = shC ⟨#[]⟩ ++ wSh wKeep :: (shX (.mk 1 730 ⟨#[99, 108, 111, 115, 101, 100]⟩ []) ++ wSh wThen :: wSh (actW 1) :: ⟨6, ⟨#[59]⟩, 0⟩ :: []) := by simp [shR, exRu]
  rw [e2]
  exact h5
theorem exFu : fuRs [exRu] = 9 := by
  have : fuX (.mk 1 730 ⟨#[99, 108, 111, 115, 101, 100]⟩ []) = 3 := by rw [fuX, if_pos rfl]
  show fuC ⟨#[]⟩ + fuX (.mk 1 730 ⟨#[99, 108, 111, 115, 101, 100]⟩ []) + 5 + 0 = 9
  rw [this]
  rfl
theorem exRun (f : Int) (hf : 9 ≤ f) : readD exTx.data.toList f = ([exRu], 42, f - 9, 0) := by
  have hs := exSh 0
  have e : lexAll exTx.data.toList = lexR exTx.data.toList 0 := by rw [lexAll, if_neg (by decide)]
  have hr := run_back (ts := (lexR exTx.data.toList 0).1) (rs := [exRu]) (f := f) (fun r h => by simp at h; subst h; exact exOk) (by rw [hs.2]; simp) (by rw [exFu]; exact hf)
  rw [readD_run, e, if_neg (by have := hs.1; omega), hr, if_neg (by simp), exCheck, if_neg (by simp), exFu]
  rfl
theorem exCost : costD exTx.data.toList = (9, 0) := by
  unfold costD
  rw [exRun _ (by decide)]
  rfl
theorem exLess : (readD exTx.data.toList 8).1 = [] ∧ (readD exTx.data.toList 8).2.2.2 = 14 := by
  obtain ⟨_, _, _, _, h⟩ := cost_law exCost
  exact h 1 (by decide) (by decide)
theorem lnum_any (n : Int) (w : World) : Calls Tryz.prog 11 #[.int .i64 n] w fun e w' => e = .returned (.int .i64 n) ∧ w = w' := by
  go_enter Tryz.func11, Tryz.ntmps11
  go_wp2
  go_ret
  exact ⟨rfl, rfl⟩
set_option maxRecDepth 100000 in
set_option maxHeartbeats 4000000 in
theorem palive_any (w : World) (hP : Pow w) (hE : Errs w) : Calls Tryz.prog 5 #[] w fun e w' => e = .returned (.bool true) ∧ Gr w w' := by
  have HP := Lib.hid hP
  have HE := Lib.hid hE
  have cC := pcost_any exTx w hP hE (by unfold maxLen; decide)
  have c9 := fun W (hg : Gr w W) => prules_any exTx 9 W (HP.out.below hg) (HE.out.gr hg) (by unfold maxLen; decide) (by decide) (by decide)
  have c8 := fun W (hg : Gr w W) => prules_any exTx 8 W (HP.out.below hg) (HE.out.gr hg) (by unfold maxLen; decide) (by decide) (by decide)
  rw [exCost] at cC
  rw [exRun 9 (by decide)] at c9
  rw [exLess.1, exLess.2] at c8
  dsimp only at cC c9 c8
  generalize (readD exTx.data.toList 8).2.1 = p8 at *
  clear hP hE
  go_enter Tryz.func5, Tryz.ntmps5
  go_wp2_with (first
    | (go_at_call 8; (with_reducible refine cC.mono ?_); rintro e w1 ⟨rfl, hb1⟩)
    | (go_at_call 6; (with_reducible refine (c9 _ hb1).mono ?_); rintro e w2 ⟨v2, rfl, hr2, hb2⟩; obtain ⟨A2, cp2, rfl, -⟩ := hr2.form)
    | (go_at_call 6; (with_reducible refine (c8 _ (Gr.trans hb1 hb2)).mono ?_); rintro e w3 ⟨v3, rfl, hr3, hb3⟩; obtain ⟨A3, cp3, rfl, -⟩ := hr3.form)
    | (go_at_call 11; (with_reducible refine (lnum_any _ _).mono ?_); rintro e w5 ⟨rfl, rfl⟩))
  go_ret
  exact ⟨rfl, Gr.trans (Gr.trans hb1 hb2) hb3⟩
end Go.Proofs.YtogpmihepfnoaaaGreatDoor
