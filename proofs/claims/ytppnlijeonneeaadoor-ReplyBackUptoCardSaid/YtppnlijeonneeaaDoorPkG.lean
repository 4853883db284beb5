/- Answers as texts: plain laws: an answer, its text, and how words are read as one. Answers as texts: plain laws: what is written is read, by the program, by the reference. strings.Builder: what a writing leaves as it was. Turned from RuB. Answers as texts: an answer in memory; the program's words, Text. Answers as texts: the program's digits. Answers as texts: the reference's Tell of any number, Hex. Answers as texts: the program's Text. -/
import Derived.Test.YtppnlijeonneeaaDoorPkA
import Derived.Test.YtppnlijeonneeaaDoorPkC
import Derived.Test.YtppnlijeonneeaaDoorPkD
import Derived.Test.YtppnlijeonneeaaDoorShelf6
import Derived.Test.YtppnlijeonneeaaDoorShelf7
import Derived.Lib.AppendStr
import Derived.OwnWalk
import Derived.Test.YtppnlijeonneeaaDoorEvPut
import Derived.Test.YtppnlijeonneeaaDoorFactsD
namespace Go.Proofs.YtppnlijeonneeaaDoor
open Go Go.RowKit

/-- An answer. -/
structure Rep where
  err : Int
  n : Int
  nms : List ByteArray
  held : List ByteArray
  lst : List (List UInt8)
def Rep.zero : Rep := ⟨0, 0, [], [], []⟩
/-- A hexadecimal digit. -/
def digW (k : Nat) : UInt8 := [48, 49, 50, 51, 52, 53, 54, 55, 56, 57, 97, 98, 99, 100, 101, 102].getD k 0
def hexB (c : UInt8) : List UInt8 := [digW (c.toNat / 16), digW (c.toNat % 16)]
def hexL (b : List UInt8) : List UInt8 := b.flatMap hexB
theorem hexL_nil : hexL [] = [] := rfl
theorem hexL_snoc (b : List UInt8) (c : UInt8) : hexL (b ++ [c]) = hexL b ++ hexB c := by simp [hexL]
theorem hexL_cons (c : UInt8) (b : List UInt8) : hexL (c :: b) = digW (c.toNat / 16) :: digW (c.toNat % 16) :: hexL b := by simp [hexL, hexB]
theorem hexL_len (b : List UInt8) : (hexL b).length = 2 * b.length := by
  induction b with
  | nil => rfl
  | cons c r ih => rw [hexL_cons, List.length_cons, List.length_cons, ih, List.length_cons]; omega
/-- Words, each with a blank and a letter ahead. -/
def ledW (c : UInt8) (l : List (List UInt8)) : List UInt8 := l.flatMap fun s => 32 :: c :: s
theorem ledW_nil (c : UInt8) : ledW c [] = [] := rfl
theorem ledW_snoc (c : UInt8) (l : List (List UInt8)) (s : List UInt8) : ledW c (l ++ [s]) = ledW c l ++ (32 :: c :: s) := by simp [ledW]
theorem ledW_cons (c : UInt8) (l : List (List UInt8)) (s : List UInt8) : ledW c (s :: l) = 32 :: c :: (s ++ ledW c l) := by simp [ledW]
def Rep.nl (r : Rep) : List (List UInt8) := r.nms.map (·.data.toList)
def Rep.hl (r : Rep) : List (List UInt8) := r.held.map (·.data.toList)
def Rep.xl (r : Rep) : List (List UInt8) := r.lst.map hexL
/-- An answer's text. -/
def textO (r : Rep) : List UInt8 :=
  if r.err ≠ 0 then [101, 114, 114, 111, 114, 32] ++ Lib.itoa r.err else [111, 107, 32] ++ Lib.itoa r.n ++ ledW 43 r.nl ++ ledW 33 r.hl ++ ledW 61 r.xl
/-- May an answer be? -/
def mayR (r : Rep) : Prop := 0 ≤ r.err ∧ r.err ≤ 99 ∧ -1 ≤ r.n ∧ r.n ≤ 1099511627776 ∧ (r.err ≠ 0 → r.n = 0 ∧ r.nms = [] ∧ r.held = [] ∧ r.lst = []) ∧ (∀ a ∈ r.nms, nameD a = true) ∧ ∀ a ∈ r.held, nameD a = true
theorem digW_val (k : Nat) (h : k < 16) : (digW k).toNat ≠ 32 := by
  have : k = 0 ∨ k = 1 ∨ k = 2 ∨ k = 3 ∨ k = 4 ∨ k = 5 ∨ k = 6 ∨ k = 7 ∨ k = 8 ∨ k = 9 ∨ k = 10 ∨ k = 11 ∨ k = 12 ∨ k = 13 ∨ k = 14 ∨ k = 15 := by omega
  rcases this with rfl | rfl | rfl | rfl | rfl | rfl | rfl | rfl | rfl | rfl | rfl | rfl | rfl | rfl | rfl | rfl <;> decide
theorem hexL_good (b : List UInt8) : ∀ c ∈ hexL b, c ≠ 32 := by
  intro c hc e
  subst e
  unfold hexL hexB at hc
  rw [List.mem_flatMap] at hc
  obtain ⟨d, -, hd⟩ := hc
  have h1 : d.toNat < 256 := d.toNat_lt
  simp only [List.mem_cons, List.not_mem_nil, or_false] at hd
  rcases hd with h | h
  · exact digW_val (d.toNat / 16) (by omega) (by rw [← h]; rfl)
  · exact digW_val (d.toNat % 16) (by omega) (by rw [← h]; rfl)
theorem itoa_good (n : Int) : ∀ c ∈ Lib.itoa n, c ≠ 32 := by
  intro c hc e
  subst e
  by_cases h : n < 0
  · rw [Lib.itoa, if_pos h] at hc
    rcases List.mem_cons.1 hc with h1 | h1
    · exact absurd h1 (by decide)
    · have := (digits_47 _ 32 h1).1
      exact absurd this (by decide)
  · have := (itoa_digits (n := n) (by omega) 32 hc).1
    exact absurd this (by decide)
/-- The words of words that are led. -/
theorem spl_led (c : UInt8) (hc : c ≠ 32) : ∀ (l : List (List UInt8)) (a r : List UInt8) (_ : ∀ x ∈ a, x ≠ 32) (_ : ∀ s ∈ l, ∀ x ∈ s, x ≠ 32) (q : List (List UInt8)) (_ : ∀ a : List UInt8, (∀ x ∈ a, x ≠ 32) → splW (a ++ r) = a :: q),
    splW (a ++ (ledW c l ++ r)) = a :: (l.map (c :: ·) ++ q)
  | [], a, r, ha, _, q, hq => by rw [ledW_nil]; exact hq a ha
  | s :: l, a, r, ha, hl, q, hq => by
    have hs := hl s (by simp)
    have ih := spl_led c hc l (c :: s) r (fun x hx => by
      rcases List.mem_cons.1 hx with rfl | hx
      · exact hc
      · exact hs x hx) (fun t ht => hl t (by simp [ht])) q hq
    rw [ledW_cons, List.cons_append, splW_app a _ ha, List.cons_append, List.append_assoc]
    rw [List.cons_append] at ih
    rw [ih]
    rfl
theorem spl_led0 (c : UInt8) (hc : c ≠ 32) (l : List (List UInt8)) (hl : ∀ s ∈ l, ∀ x ∈ s, x ≠ 32) (r : List UInt8) (q : List (List UInt8)) (hq : ∀ a : List UInt8, (∀ x ∈ a, x ≠ 32) → splW (a ++ r) = a :: q) :
    ∀ a : List UInt8, (∀ x ∈ a, x ≠ 32) → splW (a ++ (ledW c l ++ r)) = a :: (l.map (c :: ·) ++ q) := fun a ha => spl_led c hc l a r ha hl q hq
theorem splW_end : ∀ a : List UInt8, (∀ x ∈ a, x ≠ 32) → splW (a ++ []) = a :: [] := fun a ha => by rw [List.append_nil]; exact splW_word a ha
/-- The words of an answer's text. -/
def wordsR (r : Rep) : List (List UInt8) :=
  if r.err ≠ 0 then [[101, 114, 114, 111, 114], Lib.itoa r.err] else [111, 107] :: Lib.itoa r.n :: (r.nl.map (43 :: ·) ++ (r.hl.map (33 :: ·) ++ r.xl.map (61 :: ·)))
theorem spl_rep {r : Rep} (h : mayR r) : splW (textO r) = wordsR r := by
  obtain ⟨_, _, _, _, _, h6, h7⟩ := h
  have hn : ∀ (l : List ByteArray), (∀ a ∈ l, nameD a = true) → ∀ s ∈ l.map (·.data.toList), ∀ x ∈ s, x ≠ 32 := by
    intro l hl s hs
    obtain ⟨a, ha, rfl⟩ := List.mem_map.1 hs
    exact name_good (hl a ha)
  unfold textO wordsR
  by_cases he : r.err ≠ 0
  · rw [if_pos he, if_pos he]
    rw [show ([101, 114, 114, 111, 114, 32] : List UInt8) ++ Lib.itoa r.err = [101, 114, 114, 111, 114] ++ 32 :: Lib.itoa r.err from rfl, splW_app _ _ (by decide), splW_word _ (itoa_good _)]
  · rw [if_neg he, if_neg he]
    rw [show ([111, 107, 32] : List UInt8) ++ Lib.itoa r.n ++ ledW 43 r.nl ++ ledW 33 r.hl ++ ledW 61 r.xl = [111, 107] ++ 32 :: (Lib.itoa r.n ++ (ledW 43 r.nl ++ (ledW 33 r.hl ++ (ledW 61 r.xl ++ [])))) by simp]
    rw [splW_app _ _ (by decide)]
    rw [spl_led0 43 (by decide) r.nl (hn _ h6) _ _ (spl_led0 33 (by decide) r.hl (hn _ h7) _ _ (spl_led0 61 (by decide) r.xl (fun s hs => by
      obtain ⟨b, _, rfl⟩ := List.mem_map.1 hs
      exact hexL_good b) [] [] splW_end)) _ (itoa_good _)]
    rw [List.append_nil]
end Go.Proofs.YtppnlijeonneeaaDoor

namespace Go.Proofs.YtppnlijeonneeaaDoor
open Go Go.RowKit

/-- A digit's value; -1: it is none. -/
def valW (c : UInt8) : Int := if 48 ≤ c.toNat ∧ c.toNat ≤ 57 then (c.toNat : Int) - 48 else if 97 ≤ c.toNat ∧ c.toNat ≤ 102 then (c.toNat : Int) - 87 else -1
theorem valW_dig (k : Nat) (h : k < 16) : valW (digW k) = k := by
  have : k = 0 ∨ k = 1 ∨ k = 2 ∨ k = 3 ∨ k = 4 ∨ k = 5 ∨ k = 6 ∨ k = 7 ∨ k = 8 ∨ k = 9 ∨ k = 10 ∨ k = 11 ∨ k = 12 ∨ k = 13 ∨ k = 14 ∨ k = 15 := by omega
  rcases this with rfl | rfl | rfl | rfl | rfl | rfl | rfl | rfl | rfl | rfl | rfl | rfl | rfl | rfl | rfl | rfl <;> rfl
theorem valW_lt (c : UInt8) : -1 ≤ valW c ∧ valW c ≤ 15 := by unfold valW; split <;> (try split) <;> omega
def byteW (a b : UInt8) : UInt8 := UInt8.ofNat ((max (valW a) 0).toNat * 16 + (max (valW b) 0).toNat)
/-- Bytes of digits; what are none count as 0. -/
def unhP : List UInt8 → List UInt8
  | a :: b :: r => byteW a b :: unhP r
  | _ => []
/-- Bytes of digits, if they are digits. -/
def unhR : List UInt8 → Option (List UInt8)
  | [] => some []
  | [_] => none
  | a :: b :: r => if valW a < 0 ∨ valW b < 0 then none else match unhR r with
    | none => none
    | some l => some (byteW a b :: l)
theorem byteW_hex (c : UInt8) : byteW (digW (c.toNat / 16)) (digW (c.toNat % 16)) = c := by
  have h := c.toNat_lt
  unfold byteW
  rw [valW_dig _ (by omega), valW_dig _ (by omega)]
  have e : (max ((c.toNat / 16 : Nat) : Int) 0).toNat * 16 + (max ((c.toNat % 16 : Nat) : Int) 0).toNat = c.toNat := by omega
  rw [e]
  exact UInt8.ofNat_toNat
theorem unhP_hex : ∀ b : List UInt8, unhP (hexL b) = b
  | [] => rfl
  | c :: r => by rw [hexL_cons, unhP, byteW_hex, unhP_hex r]
theorem unhR_hex : ∀ b : List UInt8, unhR (hexL b) = some b
  | [] => rfl
  | c :: r => by
    have h := c.toNat_lt
    rw [hexL_cons, unhR, valW_dig _ (by omega), valW_dig _ (by omega), if_neg (by omega), unhR_hex r, byteW_hex]
/-- A word is put into an answer. -/
def putP : List UInt8 → Rep → Option Rep
  | [], _ => none
  | c :: w, r => if c = 43 then some { r with nms := r.nms ++ [wa w] } else if c = 33 then some { r with held := r.held ++ [wa w] } else if c = 61 then some { r with lst := r.lst ++ [unhP w] } else none
def putR : List UInt8 → Rep → Option Rep
  | [], _ => none
  | c :: w, r => if c = 43 then some { r with nms := r.nms ++ [wa w] } else if c = 33 then some { r with held := r.held ++ [wa w] } else if c = 61 then (match unhR w with
    | none => none
    | some b => some { r with lst := r.lst ++ [b] }) else none
def foldW (put : List UInt8 → Rep → Option Rep) : List (List UInt8) → Rep → Option Rep
  | [], r => some r
  | w :: l, r => match put w r with
    | none => none
    | some q => foldW put l q
theorem foldW_app (put : List UInt8 → Rep → Option Rep) : ∀ (l m : List (List UInt8)) (r q : Rep), foldW put l r = some q → foldW put (l ++ m) r = foldW put m q
  | [], m, r, q, h => by cases h; rfl
  | w :: l, m, r, q, h => by
    rw [List.cons_append, foldW]
    rw [foldW] at h
    cases e : put w r with
    | none => rw [e] at h; cases h
    | some p =>
      rw [e] at h
      exact foldW_app put l m p q h
theorem fold_names (put : List UInt8 → Rep → Option Rep) (hp : ∀ w r, put (43 :: w) r = some { r with nms := r.nms ++ [wa w] }) : ∀ (l : List ByteArray) (r : Rep), foldW put ((l.map (·.data.toList)).map (43 :: ·)) r = some { r with nms := r.nms ++ l }
  | [], r => by rw [List.append_nil]; rfl
  | a :: l, r => by
    rw [List.map_cons, List.map_cons, foldW, hp]
    dsimp only
    rw [fold_names put hp l, data_wa]
    simp
theorem fold_held (put : List UInt8 → Rep → Option Rep) (hp : ∀ w r, put (33 :: w) r = some { r with held := r.held ++ [wa w] }) : ∀ (l : List ByteArray) (r : Rep), foldW put ((l.map (·.data.toList)).map (33 :: ·)) r = some { r with held := r.held ++ l }
  | [], r => by rw [List.append_nil]; rfl
  | a :: l, r => by
    rw [List.map_cons, List.map_cons, foldW, hp]
    dsimp only
    rw [fold_held put hp l, data_wa]
    simp
theorem fold_list (put : List UInt8 → Rep → Option Rep) (hp : ∀ b r, put (61 :: hexL b) r = some { r with lst := r.lst ++ [b] }) : ∀ (l : List (List UInt8)) (r : Rep), foldW put ((l.map hexL).map (61 :: ·)) r = some { r with lst := r.lst ++ l }
  | [], r => by rw [List.append_nil]; rfl
  | a :: l, r => by
    rw [List.map_cons, List.map_cons, foldW, hp]
    dsimp only
    rw [fold_list put hp l]
    simp
theorem fold_rep (put : List UInt8 → Rep → Option Rep) (h1 : ∀ w r, put (43 :: w) r = some { r with nms := r.nms ++ [wa w] }) (h2 : ∀ w r, put (33 :: w) r = some { r with held := r.held ++ [wa w] }) (h3 : ∀ b r, put (61 :: hexL b) r = some { r with lst := r.lst ++ [b] }) (r : Rep) (he : r.err = 0) :
    foldW put (r.nl.map (43 :: ·) ++ (r.hl.map (33 :: ·) ++ r.xl.map (61 :: ·))) ⟨0, r.n, [], [], []⟩ = some r := by
  unfold Rep.nl Rep.hl Rep.xl
  rw [foldW_app put _ _ _ _ (fold_names put h1 r.nms _), foldW_app put _ _ _ _ (fold_held put h2 r.held _), fold_list put h3]
  obtain ⟨e, n, a, b, c⟩ := r
  dsimp only at he
  subst he
  simp
theorem putP_1 (w : List UInt8) (r : Rep) : putP (43 :: w) r = some { r with nms := r.nms ++ [wa w] } := by rw [putP, if_pos rfl]
theorem putP_2 (w : List UInt8) (r : Rep) : putP (33 :: w) r = some { r with held := r.held ++ [wa w] } := by rw [putP, if_neg (by decide), if_pos rfl]
theorem putP_3 (w : List UInt8) (r : Rep) : putP (61 :: w) r = some { r with lst := r.lst ++ [unhP w] } := by rw [putP, if_neg (by decide), if_neg (by decide), if_pos rfl]
theorem putR_1 (w : List UInt8) (r : Rep) : putR (43 :: w) r = some { r with nms := r.nms ++ [wa w] } := by rw [putR, if_pos rfl]
theorem putR_2 (w : List UInt8) (r : Rep) : putR (33 :: w) r = some { r with held := r.held ++ [wa w] } := by rw [putR, if_neg (by decide), if_pos rfl]
theorem putR_3 (b : List UInt8) (r : Rep) : putR (61 :: hexL b) r = some { r with lst := r.lst ++ [b] } := by rw [putR, if_neg (by decide), if_neg (by decide), if_pos rfl, unhR_hex]
abbrev bError : List UInt8 := [101, 114, 114, 111, 114]
abbrev bOk : List UInt8 := [111, 107]
/-- What the program makes of words. -/
def candP : List (List UInt8) → Option Rep
  | a :: b :: l => match Lib.atoiAll b with
    | .ok n => foldW putP l (if a = bError then ⟨n, 0, [], [], []⟩ else ⟨0, n, [], [], []⟩)
    | _ => none
  | _ => none
/-- A number of an answer; -2: it is none. -/
def numRW (b : List UInt8) : Int := if b = [45, 49] then -1 else if numD b 13 < 0 then -2 else numD b 13
/-- What the reference makes of words. -/
def candR : List (List UInt8) → Option Rep
  | a :: b :: l => if a = bError then (if l = [] ∧ 0 < numRW b then some ⟨numRW b, 0, [], [], []⟩ else none) else match foldW putR l ⟨0, numRW b, [], [], []⟩ with
    | none => none
    | some r => if a = bOk ∧ -1 ≤ numRW b then some r else none
  | _ => none
theorem itoa_m1 : Lib.itoa (-1) = [45, 49] := by
  rw [Lib.itoa, if_pos (by omega)]
  rw [show (-1 : Int).natAbs = 1 from rfl, Lib.decDigits_one (by omega)]
  rfl
theorem atoi_itoaW {n : Int} (h0 : -1 ≤ n) (h1 : n ≤ 1099511627776) : Lib.atoiAll (Lib.itoa n) = .ok n := by
  by_cases hn : n < 0
  · obtain rfl : n = -1 := by omega
    rw [itoa_m1]
    rfl
  · have hl := itoa_13 (n := n) (by omega) h1
    have hd := numD_itoa (n := n) (by omega) h1
    have hne : 1 ≤ (Lib.itoa n).length := by
      obtain ⟨m, rfl⟩ : ∃ m : Nat, n = m := ⟨n.toNat, by omega⟩
      rw [Lib.itoa_nonneg]
      have := itoa_ne m
      cases e : Lib.decDigits m with
      | nil => exact absurd e this
      | cons a b => simp
    rcases num13_ways (Lib.itoa n) with ⟨_, h⟩ | ⟨v, h2, h3⟩
    · omega
    · rw [h2]
      rcases h3 with ⟨_, h⟩ | ⟨_, _, h⟩ | ⟨_, _, _, h⟩ | ⟨_, _, _, h⟩
      · omega
      · omega
      · omega
      · rw [← h, hd]
theorem numRW_itoa {n : Int} (h0 : -1 ≤ n) (h1 : n ≤ 1099511627776) : numRW (Lib.itoa n) = n := by
  by_cases hn : n < 0
  · obtain rfl : n = -1 := by omega
    rw [itoa_m1]
    rfl
  · have hd := numD_itoa (n := n) (by omega) h1
    unfold numRW
    rw [if_neg ?_, hd, if_neg (by omega)]
    intro e
    have := (itoa_digits (n := n) (by omega) 45 (by rw [e]; simp)).1
    exact absurd this (by decide)
theorem candP_rep {r : Rep} (h : mayR r) : candP (wordsR r) = some r := by
  obtain ⟨h1, h2, h3, h4, h5, h6, h7⟩ := h
  unfold wordsR
  by_cases he : r.err ≠ 0
  · rw [if_pos he, candP, atoi_itoaW (by omega) (by omega)]
    obtain ⟨e1, e2, e3, e4⟩ := h5 he
    obtain ⟨e, n, a, b, c⟩ := r
    dsimp only at *
    subst e1 e2 e3 e4
    rw [foldW, if_pos rfl]
  · rw [if_neg he, candP, atoi_itoaW h3 h4]
    dsimp only
    rw [if_neg (by decide)]
    exact fold_rep putP putP_1 putP_2 (fun b r => by rw [putP_3, unhP_hex]) r (by omega)
theorem candR_rep {r : Rep} (h : mayR r) : candR (wordsR r) = some r := by
  obtain ⟨h1, h2, h3, h4, h5, h6, h7⟩ := h
  unfold wordsR
  by_cases he : r.err ≠ 0
  · rw [if_pos he, candR, numRW_itoa (by omega) (by omega), if_pos rfl, if_pos ⟨rfl, by omega⟩]
    obtain ⟨e1, e2, e3, e4⟩ := h5 he
    obtain ⟨e, n, a, b, c⟩ := r
    dsimp only at *
    subst e1 e2 e3 e4
    rfl
  · rw [if_neg he, candR, numRW_itoa h3 h4, if_neg (by decide), fold_rep putR putR_1 putR_2 putR_3 r (by omega)]
    dsimp only
    rw [if_pos ⟨rfl, h3⟩]
/-- That text is of that answer. -/
def OkR (l : List UInt8) (r : Rep) : Prop := l.length ≤ 4000 ∧ mayR r ∧ textO r = l
theorem OkR.cp {l : List UInt8} {r : Rep} (h : OkR l r) : candP (splW l) = some r := by rw [← h.2.2, spl_rep h.2.1]; exact candP_rep h.2.1
theorem OkR.cr {l : List UInt8} {r : Rep} (h : OkR l r) : candR (splW l) = some r := by rw [← h.2.2, spl_rep h.2.1]; exact candR_rep h.2.1
theorem OkR.one {l : List UInt8} {r q : Rep} (h : OkR l r) (k : OkR l q) : r = q := by have h1 := h.cp; rw [k.cp] at h1; cases h1; rfl
end Go.Proofs.YtppnlijeonneeaaDoor

namespace Go.Proofs.YtppnlijeonneeaaDoor
open Go Go.RowKit Go.Sort

/-- Blocks of other types stay. -/
def KeepTQ (w w' : World) : Prop := ∀ (j : Nat) (T : TypeId) (cs : Array Value) (fr : Nat × Nat), w.heap[j]? = some (.cells cs T fr) → T ≠ 63 → T ≠ 5 → w'.heap[j]? = w.heap[j]?
theorem KeepTQ.refl (w : World) : KeepTQ w w := fun _ _ _ _ _ _ _ => rfl
theorem KeepTQ.trans {a b c : World} (h : KeepTQ a b) (h' : KeepTQ b c) : KeepTQ a c := fun j T cs fr hj h1 h2 => by
  have e := h j T cs fr hj h1 h2
  rw [h' j T cs fr (e.trans hj) h1 h2, e]
theorem KeepTQ.blk {w w' : World} {g : Nat} {T : TypeId} {cs : Array Value} (h : KeepTQ w w') (hb : Blk w g T cs) (h1 : T ≠ 63) (h2 : T ≠ 5) : Blk w' g T cs := (h g T cs (0, 0) hb h1 h2).trans hb
theorem KeepTQ.set_ {w : World} {b i : Nat} {cs : Array Value} {v : Value} (hb : w.heap[b]? = some (.cells cs 63 (0, 0))) : KeepTQ w (w.setCell ⟨b, i, none⟩ v) := by
  intro j T cs' fr hj h1 _
  refine Below.heap_setCell w ⟨b, i, none⟩ v j (fun e => ?_)
  have e : j = b := e
  rw [e, hb] at hj
  injection hj with hj
  injection hj with _ h3 _
  exact h1 h3.symm
theorem KeepTQ.grown {w w' : World} {B n : Nat} {v : Value} {xs : List Value} (hown : w.ownsRow B 5 1 v n xs) (hg : w.grownBy w' v.ownBlock) : KeepTQ w w' := by
  intro j T cs fr hj h1 h2
  have hlt : j < w.heap.size := by
    rcases Nat.lt_or_ge j w.heap.size with h | h
    · exact h
    · rw [Array.getElem?_eq_none h] at hj; cases hj
  refine hg.block j hlt (fun e => ?_)
  rcases hown.2 with ⟨rfl, _⟩ | ⟨g, cap, cur, rfl, e2, e3, e4, e5⟩
  · simp [Value.ownBlock] at e
  · simp [Value.ownBlock] at e
    subst e
    rw [e3] at hj
    injection hj with hj
    injection hj with _ h3 _
    exact h2 h3.symm
theorem isb_grQ {w w' : World} {T e : TypeId} {B b : Nat} {bs : List Value} (h : Lib.IsBuilder T e B b bs w) (hg : Gr w w') : Lib.IsBuilder T e B b bs w' := by
  have one : ∀ p, Lib.BuilderAt T e B b p bs w → Lib.BuilderAt T e B b p bs w' := by
    rintro p ⟨hB, v, hb, ho, hn⟩
    have hlt : b < w.heap.size := by
      rcases Nat.lt_or_ge b w.heap.size with h | h
      · exact h
      · rw [Array.getElem?_eq_none h] at hb; cases hb
    exact ⟨hB, v, (hg.block b hlt).trans hb, ownsRow_gr ho hg, hn⟩
  exact h.elim (fun h => .inl (one _ h)) (fun h => .inr (one _ h))
theorem isb_newQ (w : World) (B : Nat) (hB : B ≤ w.heap.size) : Lib.IsBuilder 63 5 B w.heap.size [] (w.alloc (.cells #[.pointer none, .slice none 0 0] 63)) :=
  .inl ⟨hB, .slice none 0 0, Blk.new w _ _, ⟨rfl, .inl ⟨rfl, rfl⟩⟩, by simp [Value.ownBlock]⟩
theorem ccheck_anyQ (B b : Nat) (bs : List Value) (w : World) (h : Lib.IsBuilder 63 5 B b bs w) : Calls Tryd.prog 59 #[.pointer (some ⟨b, 0, none⟩)] w fun e w' =>
    e = .returned (.tuple #[]) ∧ Lib.BuilderAt 63 5 B b (.pointer (some ⟨b, 0, none⟩)) bs w' ∧ Below B w w' ∧ KeepTQ w w' ∧ w.heap.size ≤ w'.heap.size := by
  rcases h with h | h
  · refine (Any.Builder_copyCheck_fresh { Tryd.lays156 with } Tryd.Builder_Extra_156.toX72 b w h.cell0 h.shape h.frozen0).mono ?_
    rintro e w' ⟨rfl, rfl⟩
    have hu := h.used (.pointer (some ⟨b, 0, none⟩))
    obtain ⟨hB, v, hb, _⟩ := h
    exact ⟨rfl, hu, (Below.refl B w).setCell (p := ⟨b, 0, none⟩) hB _, KeepTQ.set_ hb, by simp [World.setCell]⟩
  · refine (Any.Builder_copyCheck_used { Tryd.lays156 with } Tryd.Builder_Extra_156.toX72 b w h.cell0).mono ?_
    rintro e w' ⟨rfl, rfl⟩
    exact ⟨rfl, h, Below.refl B _, KeepTQ.refl _, Nat.le_refl _⟩
theorem infoB8Q : (Tryd.prog.info? 5).map (fun i => (i.zero, i.size, i.bytes)) = some (some (.int .u8 0), 1, 1) := by kernel_rfl
set_option maxHeartbeats 2000000 in
set_option maxRecDepth 100000 in
theorem wstr_anyQ (B b : Nat) (bs : List Value) (s : ByteArray) (w : World) (h : Lib.IsBuilder 63 5 B b bs w) (hlen : bs.length + s.size ≤ 140737488355328) (hBw : B ≤ w.heap.size) :
    Calls Tryd.prog 31 #[.pointer (some ⟨b, 0, none⟩), .string s] w fun e w' => (∃ v, e = .returned v) ∧ Lib.IsBuilder 63 5 B b (bs ++ Lib.strCells s) w' ∧ Below B w w' ∧ KeepTQ w w' := by
  obtain ⟨i0, hi, hz0, hz1, hz2⟩ := info_parts infoB8Q
  have cC := ccheck_anyQ B b bs w h
  clear h
  go_enter Tryd.func31, Tryd.ntmps31
  go_wp2_with (go_at_call 59; refine cC.mono ?_)
  rintro e w1 ⟨rfl, h1, hb1, hk1, hs1⟩
  obtain ⟨hB, v, hbk, hown, hne⟩ := h1
  have c0 : w1.cell? ⟨b, 0, none⟩ = some (.pointer (some ⟨b, 0, none⟩)) := by rw [Lib.cell_of_heap hbk]; rfl
  have c1 : w1.cell? ⟨b, 1, none⟩ = some v := by rw [Lib.cell_of_heap hbk]; rfl
  go_wp2_with (at_builtin; refine Lib.wpList_append_own_string _ rfl _ _ 49 9 rfl B 5 i0 Tryd.underlying49 Tryd.underlying9 hi hz0 hz1 hz2 _ _ _ rfl hown s rfl ?c3 ?c4 ?c5 ?_)
  case c3 => unfold maxLen; omega
  case c4 => omega
  case c5 => omega
  intro v' w2 hown' hgrow _
  have hlt : b < w1.heap.size := by
    rcases Nat.lt_or_ge b w1.heap.size with h' | h'
    · exact h'
    · simp [Array.getElem?_eq_none h'] at hbk
  have hb2 : w2.heap[b]? = some (.cells #[.pointer (some ⟨b, 0, none⟩), v] 63 (0, 0)) := by
    rw [hgrow.block b hlt (fun e => hne e.symm)]
    exact hbk
  have d0 : w2.cell? ⟨b, 0, none⟩ = some (.pointer (some ⟨b, 0, none⟩)) := by rw [Lib.cell_of_heap hb2]; rfl
  have d1 : w2.cell? ⟨b, 1, none⟩ = some v := by rw [Lib.cell_of_heap hb2]; rfl
  have f1 : w2.frozen? ⟨b, 1, none⟩ = false := Lib.frozen_of_heap hb2 1
  have hk2 := KeepTQ.grown hown hgrow
  have hb2' := hb1.grown hgrow (by omega) (fun k hk => (hown.lt k hk).1)
  obtain ⟨ao, n', cap, rfl⟩ : ∃ ao n' cap, v' = .slice ao n' cap := by
    rcases hown'.2 with ⟨hv, _⟩ | ⟨g, cap, cur, hv, _⟩
    · exact ⟨none, 0, 0, hv⟩
    · exact ⟨_, _, cap, hv⟩
  go_wp2
  refine bodyPost_ret (v := .tuple #[.int .i64 s.size, .nilIface]) (by simp [results, Tryd.results31, go_sem]) rfl ⟨⟨_, rfl⟩, ?_, ?_, ?_⟩
  · refine .inr (Lib.BuilderAt.put hB hb2 ?_ (by decide))
    rw [List.length_append, Lib.strCells_length]
    exact hown'
  · exact hb2'.setCell (p := ⟨b, 1, none⟩) hB _
  · exact (hk1.trans hk2).trans (KeepTQ.set_ hb2)
end Go.Proofs.YtppnlijeonneeaaDoor

namespace Go.Proofs.YtppnlijeonneeaaDoor
open Go Go.RowKit Go.Sort

/-- Names in memory. -/
def RkT (w : World) (K : Nat → Prop) (v : Value) (l : List ByteArray) : Prop := ∃ A c, v = .slice A l.length c ∧ (l.length ≤ c ∧ c ≤ maxLen) ∧ Rk w K 1 A l.length (l.map Value.string)
/-- Rows of bytes in memory. -/
def RkLs (w : World) (K : Nat → Prop) : List (List UInt8) → List Value → Prop
  | [], vs => vs = []
  | b :: l, vs => ∃ v r, vs = v :: r ∧ RkB w K v b ∧ RkLs w K l r
def RkL (w : World) (K : Nat → Prop) (v : Value) (l : List (List UInt8)) : Prop := ∃ A c vs, v = .slice A l.length c ∧ (l.length ≤ c ∧ c ≤ maxLen) ∧ Rk w K 1 A l.length vs ∧ RkLs w K l vs
/-- An answer in memory. -/
def RdRep (w : World) (K : Nat → Prop) (r : Rep) (v : Value) : Prop := ∃ v1 v2 v3, v = .agg #[.int .i64 r.err, .int .i64 r.n, v1, v2, v3] ∧ RkT w K v1 r.nms ∧ RkT w K v2 r.held ∧ RkL w K v3 r.lst
section
variable {w w' : World} {K K' : Nat → Prop} {v : Value}
theorem RkT.keep {l : List ByteArray} (h : RkT w K v l) (hk : ∀ p : Addr, K p.block → w'.cell? p = w.cell? p) : RkT w' K v l := by
  obtain ⟨A, c, e, hc, hr⟩ := h
  exact ⟨A, c, e, hc, hr.keep hk⟩
theorem RkT.mono {l : List ByteArray} (h : RkT w K v l) (hk : ∀ b, K b → K' b) : RkT w K' v l := by
  obtain ⟨A, c, e, hc, hr⟩ := h
  exact ⟨A, c, e, hc, hr.mono hk⟩
theorem RkLs.keep (hk : ∀ p : Addr, K p.block → w'.cell? p = w.cell? p) : ∀ (l : List (List UInt8)) (vs : List Value), RkLs w K l vs → RkLs w' K l vs
  | [], _, h => h
  | b :: l, vs, h => by
    obtain ⟨v, r, e, h1, h2⟩ := h
    exact ⟨v, r, e, h1.keep hk, RkLs.keep hk l r h2⟩
theorem RkLs.mono (hk : ∀ b, K b → K' b) : ∀ (l : List (List UInt8)) (vs : List Value), RkLs w K l vs → RkLs w K' l vs
  | [], _, h => h
  | b :: l, vs, h => by
    obtain ⟨v, r, e, h1, h2⟩ := h
    exact ⟨v, r, e, h1.mono hk, RkLs.mono hk l r h2⟩
theorem RkLs.at_ : ∀ (l : List (List UInt8)) (vs : List Value) (k : Nat) (b : List UInt8), RkLs w K l vs → l[k]? = some b → ∃ v, vs[k]? = some v ∧ RkB w K v b
  | [], _, _, _, _, h => by simp at h
  | x :: l, vs, k, b, h, hb => by
    obtain ⟨v, r, rfl, h1, h2⟩ := h
    cases k with
    | zero =>
      simp only [List.getElem?_cons_zero, Option.some.injEq] at hb
      subst hb
      exact ⟨v, rfl, h1⟩
    | succ k =>
      simp only [List.getElem?_cons_succ] at hb ⊢
      exact RkLs.at_ l r k b h2 hb
theorem RkL.keep {l : List (List UInt8)} (h : RkL w K v l) (hk : ∀ p : Addr, K p.block → w'.cell? p = w.cell? p) : RkL w' K v l := by
  obtain ⟨A, c, vs, e, hc, hr, hl⟩ := h
  exact ⟨A, c, vs, e, hc, hr.keep hk, RkLs.keep hk l vs hl⟩
theorem RkL.mono {l : List (List UInt8)} (h : RkL w K v l) (hk : ∀ b, K b → K' b) : RkL w K' v l := by
  obtain ⟨A, c, vs, e, hc, hr, hl⟩ := h
  exact ⟨A, c, vs, e, hc, hr.mono hk, RkLs.mono hk l vs hl⟩
theorem RdRep.keep {r : Rep} (h : RdRep w K r v) (hk : ∀ p : Addr, K p.block → w'.cell? p = w.cell? p) : RdRep w' K r v := by
  obtain ⟨v1, v2, v3, e, h1, h2, h3⟩ := h
  exact ⟨v1, v2, v3, e, h1.keep hk, h2.keep hk, h3.keep hk⟩
theorem RdRep.mono {r : Rep} (h : RdRep w K r v) (hk : ∀ b, K b → K' b) : RdRep w K' r v := by
  obtain ⟨v1, v2, v3, e, h1, h2, h3⟩ := h
  exact ⟨v1, v2, v3, e, h1.mono hk, h2.mono hk, h3.mono hk⟩
theorem RdRep.gr {r : Rep} (h : RdRep w (· < w.heap.size) r v) (hg : Gr w w') : RdRep w' (· < w'.heap.size) r v :=
  (h.keep fun _ hp => hg.cell hp).mono fun _ hb => Nat.lt_of_lt_of_le hb hg.size
theorem RkT.gr {l : List ByteArray} (h : RkT w (· < w.heap.size) v l) (hg : Gr w w') : RkT w' (· < w'.heap.size) v l :=
  (h.keep fun _ hp => hg.cell hp).mono fun _ hb => Nat.lt_of_lt_of_le hb hg.size
theorem RkL.gr {l : List (List UInt8)} (h : RkL w (· < w.heap.size) v l) (hg : Gr w w') : RkL w' (· < w'.heap.size) v l :=
  (h.keep fun _ hp => hg.cell hp).mono fun _ hb => Nat.lt_of_lt_of_le hb hg.size
end
theorem ledW_take {c : UInt8} {l : List (List UInt8)} {k : Nat} {x : List UInt8} (h : l[k]? = some x) : ledW c (l.take (k + 1)) = ledW c (l.take k) ++ (32 :: c :: x) := by
  obtain ⟨hl, e⟩ := List.getElem?_eq_some_iff.1 h
  rw [List.take_succ_eq_append_getElem hl, e, ledW_snoc]
theorem ledW_take_len (c : UInt8) : ∀ (l : List (List UInt8)) (k : Nat), (ledW c (l.take k)).length ≤ (ledW c l).length
  | [], k => by rw [List.take_nil]; exact Nat.le_refl _
  | x :: l, 0 => by rw [List.take_zero, ledW_nil]; exact Nat.zero_le _
  | x :: l, k + 1 => by
    have := ledW_take_len c l k
    rw [List.take_succ_cons, ledW_cons, ledW_cons]
    simp only [List.length_cons, List.length_append]
    omega
theorem strCells_wa (l : List UInt8) : Lib.strCells (wa l) = Lib.byteCells l := rfl
theorem byteCells_appW (a b : List UInt8) : Lib.byteCells a ++ Lib.byteCells b = Lib.byteCells (a ++ b) := by
  unfold Lib.byteCells
  rw [List.map_append]
theorem byteCells_lenW (l : List UInt8) : (Lib.byteCells l).length = l.length := by
  unfold Lib.byteCells
  rw [List.length_map]
theorem led_wa (c : UInt8) (x : ByteArray) : (⟨#[32]⟩ : ByteArray) ++ ⟨#[c]⟩ ++ x = wa (32 :: c :: x.data.toList) := by
  show wa [32] ++ wa [c] ++ x = _
  rw [wa_append, ← data_wa x, wa_append, wa_data]
  rfl
abbrev IsB (B b : Nat) (l : List UInt8) (w : World) : Prop := Lib.IsBuilder 63 5 B b (Lib.byteCells l) w
theorem write_any (B b : Nat) (l m : List UInt8) (w : World) (h : IsB B b l w) (hlen : l.length + m.length ≤ 100000000) (hBw : B ≤ w.heap.size) :
    Calls Tryd.prog 31 #[.pointer (some ⟨b, 0, none⟩), .string (wa m)] w fun e w' => (∃ v, e = .returned v) ∧ IsB B b (l ++ m) w' ∧ Below B w w' ∧ KeepTQ w w' := by
  have := wstr_anyQ B b (Lib.byteCells l) (wa m) w h (by rw [byteCells_lenW, wa_size]; omega) hBw
  rw [strCells_wa, byteCells_appW] at this
  exact this
set_option maxRecDepth 100000 in
set_option maxHeartbeats 2000000 in
theorem words_any (B b : Nat) (c : UInt8) (l : List ByteArray) (A : Option Addr) (cp : Nat) (bs : List UInt8) (w : World) (hI : IsB B b bs w) (hBw : B ≤ w.heap.size) (hcp : l.length ≤ cp) (hcm : cp ≤ maxLen)
    (hk : ∀ w', Below B w w' → KeepTQ w w' → Rk w' (fun _ => True) 1 A l.length (l.map Value.string)) (hlen : bs.length + (ledW c (l.map (·.data.toList))).length ≤ 100000000) :
    Calls Tryd.prog 32 #[.pointer (some ⟨b, 0, none⟩), .string ⟨#[c]⟩, .slice A l.length cp] w fun e w' => (∃ v, e = .returned v) ∧ IsB B b (bs ++ ledW c (l.map (·.data.toList))) w' ∧ Below B w w' ∧ KeepTQ w w' := by
  unfold maxLen at hcm
  have hfull : (l.map (·.data.toList)).take l.length = l.map (·.data.toList) := List.take_of_length_le (by simp)
  have HFull := Lib.hid hfull
  have HK := Lib.hid hk
  have HL := Lib.hid (fun k => ledW_take_len c (l.map (·.data.toList)) k)
  have HLen := Lib.hid hlen
  clear hfull hk hlen
  go_enter Tryd.func32, Tryd.ntmps32
  go_wp2
  go_loopw [10] (fun v10 wr => ∃ k : Nat, v10 = .int .i64 (k : Int) ∧ k ≤ l.length ∧ IsB B b (bs ++ ledW c ((l.map (·.data.toList)).take k)) wr ∧ Below B w wr ∧ KeepTQ w wr) (fun v10 _ => l.length - (intOf v10).toNat)
  case atStart => exact ⟨0, rfl, Nat.zero_le _, by rw [List.take_zero, ledW_nil, List.append_nil]; exact hI, Below.refl _ _, KeepTQ.refl _⟩
  case round =>
    obtain ⟨k, rfl, hkl, hIr, hb, hkp⟩ := hrel
    by_cases hlt : k < l.length
    · obtain ⟨x, hxk⟩ : ∃ x, l[k]? = some x := ⟨_, List.getElem?_eq_getElem hlt⟩
      obtain ⟨ad, rfl, -, hcell⟩ := (HK.out wr hb hkp).2 (by omega)
      have k0 := hcell k (.string x) (by rw [List.getElem?_map, hxk]; rfl)
      have hT := ledW_take (c := c) (l := l.map (·.data.toList)) (k := k) (x := x.data.toList) (by rw [List.getElem?_map, hxk]; rfl)
      have hl1 := HL.out (k + 1)
      have hl2 := HLen.out
      rw [hT, List.length_append] at hl1
      simp only [List.length_cons] at hl1
      have hxs : x.data.toList.length = x.size := by simp
      have cW := write_any B b _ (32 :: c :: x.data.toList) wr hIr (by rw [List.length_append]; simp only [List.length_cons]; omega) (by have := hb.size; omega)
      rw [← led_wa] at cW
      have z1 : ¬ 9223372036854775807 < 1 + 1 + x.size := by omega
      have z2 : ¬ 9223372036854775807 < 2 + x.size := by omega
      have HT := Lib.hid hT
      clear hT hl1 hl2 hxk hcell hIr hxs
      go_wp2_with (go_at_call 31; (with_reducible refine cW.mono ?_); rintro e w3 ⟨⟨v3, rfl⟩, hI3, hb3, hk3⟩)
      all_goals (try (exfalso; omega))
      go_roundw
      case rel => exact ⟨k + 1, by go_num, hlt, by rw [HT.out, ← List.append_assoc]; exact hI3, Below.trans hb hb3, hkp.trans hk3⟩
      case measure => simp [intOf]; omega
    · obtain rfl : k = l.length := by omega
      go_wp2
      go_end0
      exact ⟨⟨_, rfl⟩, by rw [HFull.out] at hIr; exact hIr, hb, hkp⟩
end Go.Proofs.YtppnlijeonneeaaDoor

namespace Go.Proofs.YtppnlijeonneeaaDoor
open Go Go.RowKit Go.Sort

theorem str_rdW {w : World} {B : Nat} {v : Value} {l : List UInt8} (h : RdB w B v l) : (convert 49 9 v).run Tryd.prog w = .ok (.string ⟨l.toArray⟩) w := by
  obtain ⟨A, c, rfl, hc, hr⟩ := h
  rw [run_convert_bytes_string w 49 9 5 A l.length c Tryd.underlying49 Tryd.underlying5 Tryd.underlying9]
  rcases A with _ | ad
  · have h0 : l = [] := by
      rcases Nat.eq_zero_or_pos l.length with h0 | h0
      · exact List.eq_nil_of_length_eq_zero h0
      · obtain ⟨ad, h', _⟩ := hr.2 h0
        cases h'
    subst h0
    rfl
  · have hl : (loadCells ad l.length).run Tryd.prog w = .ok ((l.map fun b => (b.toNat : Int)).map (Value.int .u8)).toArray w := by
      have := run_loadCells_list (P := Tryd.prog) w ad ((l.map fun b => (b.toNat : Int)).map (Value.int .u8)) (fun j v hj => by
        have hjl : j < l.length := by
          have := (List.getElem?_eq_some_iff.1 hj).1
          simpa using this
        obtain ⟨ad', he', _, hcell⟩ := hr.2 (by omega)
        injection he' with he'
        subst he'
        refine hcell j v ?_
        rw [← hj]
        simp only [bvs, List.getElem?_map, Option.map_map]
        rfl)
      simpa using this
    rw [run_bytesToString w ad l.length c _ hl]
    have : ∀ (l : List UInt8) (s : ByteArray), (l.map fun b => (b.toNat : Int)).foldl (fun r n => r.push (UInt8.ofNat n.toNat)) s = ⟨(s.data.toList ++ l).toArray⟩ := by
      intro l
      induction l with
      | nil => intro s; simp
      | cons b r ih =>
        intro s
        simp only [List.map_cons, List.foldl_cons]
        rw [ih]
        simp [ByteArray.push]
    rw [this]
    rfl

abbrev bHex : ByteArray := ⟨#[48, 49, 50, 51, 52, 53, 54, 55, 56, 57, 97, 98, 99, 100, 101, 102]⟩
theorem bHex_get (k : Nat) (h : k < bHex.size) : bHex[k]'h = digW k := by
  have hk : k < 16 := h
  have : k = 0 ∨ k = 1 ∨ k = 2 ∨ k = 3 ∨ k = 4 ∨ k = 5 ∨ k = 6 ∨ k = 7 ∨ k = 8 ∨ k = 9 ∨ k = 10 ∨ k = 11 ∨ k = 12 ∨ k = 13 ∨ k = 14 ∨ k = 15 := by omega
  rcases this with rfl | rfl | rfl | rfl | rfl | rfl | rfl | rfl | rfl | rfl | rfl | rfl | rfl | rfl | rfl | rfl <;> rfl
theorem hexL_take {l : List UInt8} {k : Nat} {c : UInt8} (h : l[k]? = some c) : hexL (l.take (k + 1)) = hexL (l.take k) ++ hexB c := by
  obtain ⟨hl, e⟩ := List.getElem?_eq_some_iff.1 h
  rw [List.take_succ_eq_append_getElem hl, e, hexL_snoc]
set_option maxRecDepth 100000 in
set_option maxHeartbeats 2000000 in
theorem digits_any (w : World) (v : Value) (l : List UInt8) (hr : RdB w w.heap.size v l) (hl : l.length ≤ 1000000) : Calls Tryd.prog 33 #[v] w fun e w' => e = .returned (.string (wa (hexL l))) ∧ Gr w w' := by
  obtain ⟨A, c, rfl, hc, hrr⟩ := hr
  go_enter Tryd.func33, Tryd.ntmps33
  go_wp2
  have HFull := Lib.hid (show l.take l.length = l from List.take_of_length_le (Nat.le_refl _))
  go_loopw [3, 8] (fun v3 v8 wr => ∃ (k : Nat) (vb : Value), v8 = .int .i64 (k : Int) ∧ vb = v3 ∧ k ≤ l.length ∧ OwnB wr w.heap.size vb (hexL (l.take k)) ∧ Gr w wr) (fun _ v8 _ => l.length - (intOf v8).toNat)
  case atStart => exact ⟨0, _, rfl, rfl, Nat.zero_le _, OwnB.nil _ _, Gr.refl _⟩
  case round =>
    obtain ⟨k, vb, rfl, rfl, hk, hO, hgw⟩ := hrel
    by_cases hlt : k < l.length
    · obtain ⟨x, hxk⟩ : ∃ x, l[k]? = some x := ⟨_, List.getElem?_eq_getElem hlt⟩
      obtain ⟨ad, u, rfl, hb, hu, hcell⟩ := hrr.at_ hlt
      obtain rfl : u = bv x := by
        rw [bvs, List.getElem?_map, hxk] at hu
        exact (Option.some.inj hu).symm
      have k0 := (hgw.cell (p := ad.add k) (by rw [block_of_add]; exact hb)).trans hcell
      unfold bv at k0
      have hx1 := x.toNat_lt
      have hT := hexL_take hxk
      have hlen := hexL_len (l.take k)
      rw [List.length_take] at hlen
      unfold hexB at hT
      have HT := Lib.hid hT
      clear hT hxk hu hcell
      generalize hexL (l.take k) = hl0 at *
      generalize hm : x.toNat = m at *
      have f1 : m / 16 < 16 := by omega
      have f2 : m % 16 < 16 := by omega
      go_wp2
      refine wp_region_factsD [fOwnAt w.heap.size vb hl0, .is (.int .u8 (m : Int)), .is (.int .u8 ((m / 16 : Nat) : Int)), .is (.int .u8 ((digW (m / 16)).toNat : Int)), .is (.int .u8 (m : Int)), .is (.int .u8 ((m % 16 : Nat) : Int)), .is (.int .u8 ((digW (m % 16)).toNat : Int)),
        fOwn w.heap.size [digW (m / 16), digW (m % 16)], fOwn w.heap.size (hl0 ++ [digW (m / 16), digW (m % 16)]), fOwn w.heap.size (hl0 ++ [digW (m / 16), digW (m % 16)])]
        (fun W => OwnB W w.heap.size vb hl0) (fun i j => i == 8 && decide (j < 8)) (fun i => i == 8) w.heap.size (by kernel_rfl) rfl (by kernel_rfl) (by kernel_rfl) hgw.size (hO.gr (Gr.drew _)) (fun vals => by simp [fillA, dstsOf, go_sem]; rfl) ?_ ?_
      · intro ini hin i hi
        replace hi : i < 10 := hi
        have hi9 : ini 9 = vb := congrArg (fun a : Act => a.tmps.getD 3 undef) hin
        have hI : ∀ W W', OwnB W w.heap.size vb hl0 → Gr W W' → OwnB W' w.heap.size vb hl0 := fun _ _ h hg => h.gr hg
        rcases (by omega : i = 0 ∨ i = 1 ∨ i = 2 ∨ i = 3 ∨ i = 4 ∨ i = 5 ∨ i = 6 ∨ i = 7 ∨ i = 8 ∨ i = 9) with rfl | rfl | rfl | rfl | rfl | rfl | rfl | rfl | rfl | rfl
        · refine step_gD 0 [] [9] _ _ rfl rfl hI (by kernel_rfl) (by kernel_rfl) fun vals W hb hB hIw hd hin => ?_
          have h9 : vals 9 = vb := (hin 9 (by simp)).trans hi9
          have h0 : OwnB W w.heap.size vb hl0 := hIw (by kernel_rfl)
          go_wp2
          exact ⟨rfl, vb, by rw [h9]; rfl, Gr.refl _, rfl, h0⟩
        · refine StepD.of ?_
          refine step_g 1 [] _ _ rfl rfl hI (by kernel_rfl) fun vals W hb hB hIw hd => ?_
          go_wp2
          exact ⟨rfl, _, rfl, Gr.refl _, rfl⟩
        · refine StepD.of ?_
          refine step_g 2 [1] _ _ rfl rfl hI (by kernel_rfl) fun vals W hb hB hIw hd => ?_
          have h0 : vals 1 = _ := hd 1 (by simp) _ rfl
          rw [h0]
          go_wp2
          all_goals (try (exfalso; omega))
          exact ⟨rfl, _, rfl, Gr.refl _, congrArg (Value.int .u8) (by omega)⟩
        · refine StepD.of ?_
          refine step_g 3 [2] _ _ rfl rfl hI (by kernel_rfl) fun vals W hb hB hIw hd => ?_
          have h0 : vals 2 = _ := hd 2 (by simp) _ rfl
          rw [h0]
          go_wp2
          all_goals (try (exfalso; omega))
          exact ⟨rfl, _, rfl, Gr.refl _, congrArg (fun x : UInt8 => Value.int .u8 (x.toNat : Int)) (bHex_get _ f1)⟩
        · refine StepD.of ?_
          refine step_g 4 [] _ _ rfl rfl hI (by kernel_rfl) fun vals W hb hB hIw hd => ?_
          go_wp2
          exact ⟨rfl, _, rfl, Gr.refl _, rfl⟩
        · refine StepD.of ?_
          refine step_g 5 [4] _ _ rfl rfl hI (by kernel_rfl) fun vals W hb hB hIw hd => ?_
          have h0 : vals 4 = _ := hd 4 (by simp) _ rfl
          rw [h0]
          go_wp2
          all_goals (try (exfalso; omega))
          exact ⟨rfl, _, rfl, Gr.refl _, congrArg (Value.int .u8) (by omega)⟩
        · refine StepD.of ?_
          refine step_g 6 [5] _ _ rfl rfl hI (by kernel_rfl) fun vals W hb hB hIw hd => ?_
          have h0 : vals 5 = _ := hd 5 (by simp) _ rfl
          rw [h0]
          go_wp2
          all_goals (try (exfalso; omega))
          exact ⟨rfl, _, rfl, Gr.refl _, congrArg (fun x : UInt8 => Value.int .u8 (x.toNat : Int)) (bHex_get _ f2)⟩
        · refine StepD.of ?_
          refine step_g 7 [3, 6] _ _ rfl rfl hI (by kernel_rfl) fun vals W hb hB hIw hd => ?_
          have h0 : vals 3 = _ := hd 3 (by simp) _ rfl
          have h1 : vals 6 = _ := hd 6 (by simp) _ rfl
          rw [h0, h1]
          go_wp2
          exact ⟨rfl, _, rfl, Gr.alloc _ _, OwnB.new _ [digW (m / 16), digW (m % 16)] _ hB (by unfold maxLen; simp) _ rfl⟩
        · refine StepD.of ?_
          refine step_s 8 [0, 7] [] _ _ rfl rfl (by kernel_rfl) (by kernel_rfl) fun vals W hb hB hIw hd => ?_
          obtain ⟨e0, h0⟩ := (show vals 0 = vb ∧ OwnB W w.heap.size vb hl0 from hd 0 (by simp) _ rfl)
          have h1 := (show OwnB W w.heap.size (vals 7) _ from hd 7 (by simp) _ rfl).rd
          refine wpList_appendB W rfl (.tmp 12) (.tmp 19) rfl w.heap.size vb _ e0 h0 W.heap.size (vals 7) _ rfl h1 (by simp; omega) hB fun v2 w2 ho2 hb2 hg2 => wpList_nil ?_
          exact ⟨rfl, _, rfl, hb2, ho2, fun h => (by cases h), fun j hj => by cases hj⟩
        · refine StepD.of ?_
          refine step_g 9 [8] _ _ rfl rfl hI (by kernel_rfl) fun vals W hb hB hIw hd => ?_
          have h0 : OwnB W w.heap.size (vals 8) _ := hd 8 (by simp) _ rfl
          go_wp2
          exact ⟨rfl, _, rfl, Gr.refl _, h0⟩
      · intro vals W4 hb4 hf
        have h9 : OwnB W4 w.heap.size (vals 9) (hl0 ++ [digW (m / 16), digW (m % 16)]) := hf 9 _ rfl (fun k hk => by simp)
        go_wp2
        go_roundw
        case rel => exact ⟨k + 1, _, by go_num, rfl, hlt, by rw [HT.out]; exact h9, Below.trans hgw hb4⟩
        case measure => simp [intOf]; omega
    · obtain rfl : k = l.length := by omega
      rw [HFull.out] at hO
      have hcv := str_rdW hO.rd
      go_wp2
      go_ret
      exact ⟨rfl, hgw⟩
end Go.Proofs.YtppnlijeonneeaaDoor

namespace Go.Proofs.YtppnlijeonneeaaDoor
open Go Go.RowKit Go.Sort

set_option maxRecDepth 100000 in
set_option maxHeartbeats 2000000 in
theorem TellN_any (n : Int) (w : World) (h0 : -9223372036854775808 ≤ n) (h1 : n < 0) : Calls Tryd.prog 35 #[.int .i64 n] w fun e w' => e = .returned (.string (wa (Lib.itoa n))) ∧ w = w' := by
  obtain ⟨k, rfl⟩ : ∃ k : Nat, n = -((k : Int) + 1) := ⟨(-n - 1).toNat, by omega⟩
  have e : wa (Lib.itoa (-((k : Int) + 1))) = ⟨#[45]⟩ ++ wa (Lib.decDigits (k + 1)) := by
    rw [Lib.itoa, if_pos (by omega), show (⟨#[45]⟩ : ByteArray) = wa [45] from rfl, wa_append, show (-((k : Int) + 1)).natAbs = k + 1 by omega]
    rfl
  rw [e]
  have cT := tell_any (k + 1) w (by omega)
  rw [show str (Lib.decDigits (k + 1)) = wa (Lib.decDigits (k + 1)) from rfl] at cT
  have hs : (wa (Lib.decDigits (k + 1))).size ≤ 20 := by rw [wa_size]; exact decDigits_le 19 (k + 1) (by omega)
  generalize wa (Lib.decDigits (k + 1)) = t at *
  have f1 : -((k : Int) + 1) + 1 = -(k : Int) := by omega
  have z1 : ¬ 9223372036854775807 < 1 + t.size := by omega
  clear e
  go_enter Tryd.func35, Tryd.ntmps35
  go_wp2_with (go_at_call 60; refine cT.mono ?_; rintro e w' ⟨rfl, rfl⟩)
  all_goals (try (exfalso; omega))
  go_ret
  exact ⟨rfl, rfl⟩
theorem TellZ_any (n : Int) (w : World) (h0 : -9223372036854775808 ≤ n) (h1 : n ≤ 9223372036854775807) : Calls Tryd.prog 35 #[.int .i64 n] w fun e w' => e = .returned (.string (wa (Lib.itoa n))) ∧ w = w' := by
  by_cases h : n < 0
  · exact TellN_any n w h0 h
  · exact Tell_any n w (by omega) h1
theorem hex_ext (k : Nat) (h : k < 16) : bHex.extract k (k + 1) = wa [digW k] := by
  have : k = 0 ∨ k = 1 ∨ k = 2 ∨ k = 3 ∨ k = 4 ∨ k = 5 ∨ k = 6 ∨ k = 7 ∨ k = 8 ∨ k = 9 ∨ k = 10 ∨ k = 11 ∨ k = 12 ∨ k = 13 ∨ k = 14 ∨ k = 15 := by omega
  rcases this with rfl | rfl | rfl | rfl | rfl | rfl | rfl | rfl | rfl | rfl | rfl | rfl | rfl | rfl | rfl | rfl <;> decide
set_option maxRecDepth 100000 in
set_option maxHeartbeats 2000000 in
theorem rhex_any (w : World) (v : Value) (l : List UInt8) (hr : RdB w w.heap.size v l) (hl : l.length ≤ 1000000) : Calls Tryd.prog 36 #[v] w fun e w' => e = .returned (.string (wa (hexL l))) ∧ Gr w w' := by
  obtain ⟨A, c, rfl, hc, hrr⟩ := hr
  have HFull := Lib.hid (show l.take l.length = l from List.take_of_length_le (Nat.le_refl _))
  go_enter Tryd.func36, Tryd.ntmps36
  go_wp2
  go_loopw [3, 4] (fun v3 v4 wr => ∃ k : Nat, v4 = .int .i64 (k : Int) ∧ k ≤ l.length ∧ v3 = .string (wa (hexL (l.take k))) ∧ Gr w wr) (fun _ v4 _ => l.length - (intOf v4).toNat)
  case atStart => exact ⟨0, rfl, Nat.zero_le _, rfl, Gr.refl _⟩
  case round =>
    obtain ⟨k, rfl, hk, rfl, hgw⟩ := hrel
    by_cases hlt : k < l.length
    · obtain ⟨x, hxk⟩ : ∃ x, l[k]? = some x := ⟨_, List.getElem?_eq_getElem hlt⟩
      obtain ⟨ad, u, rfl, hb, hu, hcell⟩ := hrr.at_ hlt
      obtain rfl : u = bv x := by
        rw [bvs, List.getElem?_map, hxk] at hu
        exact (Option.some.inj hu).symm
      have k0 := (hgw.cell (p := ad.add k) (by rw [block_of_add]; exact hb)).trans hcell
      unfold bv at k0
      have hx1 := x.toNat_lt
      have hT := hexL_take hxk
      have hlen := hexL_len (l.take k)
      rw [List.length_take] at hlen
      have hS : (wa (hexL (l.take k))).size ≤ 2000000 := by rw [wa_size]; omega
      unfold hexB at hT
      have e1 := hex_ext (x.toNat / 16) (by omega)
      have e2 := hex_ext (x.toNat % 16) (by omega)
      generalize hm : x.toNat = m at *
      have HT := Lib.hid hT
      have HE1 := Lib.hid e1
      have HE2 := Lib.hid e2
      clear hT hxk hu hcell e1 e2 hlen
      have f1 : m / 16 < 16 := by omega
      have f2 : m % 16 < 16 := by omega
      go_wp2
      go_quiet (fail)
      go_wp2
      go_quiet (fail)
      go_wp2
      refine ⟨⟨k + 1, by go_num, hlt, ?_, Gr.trans hgw (Gr.drewN _ _)⟩, by simp [intOf]; omega⟩
      show Value.string (wa (hexL (l.take k)) ++ bHex.extract (m / 16) (m / 16 + 1) ++ bHex.extract (m % 16) (m % 16 + 1)) = _
      rw [HT.out, HE1.out, HE2.out, wa_append, wa_append, List.append_assoc]
      rfl
    · obtain rfl : k = l.length := by omega
      rw [HFull.out]
      go_wp2
      go_ret
      exact ⟨rfl, hgw⟩
end Go.Proofs.YtppnlijeonneeaaDoor

namespace Go.Proofs.YtppnlijeonneeaaDoor
open Go Go.RowKit Go.Sort

def headR (r : Rep) : List UInt8 := [111, 107, 32] ++ Lib.itoa r.n ++ ledW 43 r.nl ++ ledW 33 r.hl
theorem textO_ok {r : Rep} (h : r.err = 0) : textO r = headR r ++ ledW 61 r.xl := by
  unfold textO headR
  rw [if_neg (by simpa using h)]
theorem textO_err {r : Rep} (h : r.err ≠ 0) : textO r = [101, 114, 114, 111, 114, 32] ++ Lib.itoa r.err := by
  unfold textO
  rw [if_pos h]
theorem itoa_20 {n : Int} (h0 : -9223372036854775808 ≤ n) (h1 : n ≤ 9223372036854775807) : (Lib.itoa n).length ≤ 20 := by
  rw [Lib.itoa]
  split
  · rw [List.length_cons]
    have := decDigits_le 18 n.natAbs (by omega)
    omega
  · have := decDigits_le 19 n.toNat (by omega)
    omega
theorem rk_one {W : World} {g : Nat} {t : ByteArray} (h : Blk W g 9 #[.string t]) : Rk W (fun _ => True) 1 (some ⟨g, 0, none⟩) 1 ([t].map Value.string) := by
  refine ⟨rfl, fun _ => ⟨_, rfl, trivial, fun j u hu => ?_⟩⟩
  have e : (⟨g, 0, none⟩ : Addr).add j = ⟨g, j, none⟩ := by
    unfold Addr.add
    split
    · rename_i h0; simp_all
    · simp
  rw [e, h.cell j, ← Array.getElem?_toList]
  exact hu
set_option maxRecDepth 100000 in
set_option maxHeartbeats 2000000 in
theorem ptextO_err (r : Rep) (v1 v2 v3 : Value) (w : World) (hP : Pow w) (h : r.err ≠ 0) (h0 : -9223372036854775808 ≤ r.err) (h1 : r.err ≤ 9223372036854775807) (hs1 : ∃ A n c, v1 = .slice A n c) (hs2 : ∃ A n c, v2 = .slice A n c) (hs3 : ∃ A n c, v3 = .slice A n c) :
    Calls Tryd.prog 11 #[.agg #[.int .i64 r.err, .int .i64 r.n, v1, v2, v3]] w fun e w' => e = .returned (.string (wa (textO r))) ∧ Gr w w' := by
  obtain ⟨A1, n1, c1, rfl⟩ := hs1
  obtain ⟨A2, n2, c2, rfl⟩ := hs2
  obtain ⟨A3, n3, c3, rfl⟩ := hs3
  rw [textO_err h, ← wa_append]
  have g1 := Gr.alloc w (.cells #[.int .i64 r.err, .int .i64 r.n, .slice A1 n1 c1, .slice A2 n2 c2, .slice A3 n3 c3] 26)
  have cI := itoa_any r.err _ (hP.below g1) h0 h1
  have hl := itoa_20 h0 h1
  rw [show str (Lib.itoa r.err) = wa (Lib.itoa r.err) from rfl] at cI
  have hs : (wa (Lib.itoa r.err)).size ≤ 20 := by rw [wa_size]; exact hl
  generalize wa (Lib.itoa r.err) = t at *
  generalize r.err = z at *
  have y : (z == 0) = false := beq_eq_false_iff_ne.2 h
  have y2 : (z != 0) = true := by simp [h]
  have z1 : ¬ 9223372036854775807 < 6 + t.size := by omega
  clear hl
  go_enter Tryd.func11, Tryd.ntmps11
  go_wp2_with (go_at_call 30; (with_reducible refine cI.mono ?_); rintro e w1 ⟨rfl, hb1⟩)
  all_goals (try (exfalso; omega))
  go_ret
  exact ⟨rfl, Gr.trans g1 hb1⟩
set_option maxRecDepth 100000 in
set_option maxHeartbeats 4000000 in
theorem ptextO_ok (r : Rep) (A1 A2 A3 : Option Addr) (c1 c2 c3 : Nat) (vs : List Value) (w : World) (hP : Pow w) (he : r.err = 0) (h0 : -9223372036854775808 ≤ r.n) (h1 : r.n ≤ 9223372036854775807)
    (q1 : r.nms.length ≤ c1 ∧ c1 ≤ maxLen) (q2 : r.held.length ≤ c2 ∧ c2 ≤ maxLen) (q3 : r.lst.length ≤ c3 ∧ c3 ≤ maxLen)
    (k1 : Rk w (· < w.heap.size) 1 A1 r.nms.length (r.nms.map Value.string)) (k2 : Rk w (· < w.heap.size) 1 A2 r.held.length (r.held.map Value.string)) (k3 : Rk w (· < w.heap.size) 1 A3 r.lst.length vs) (l3 : RkLs w (· < w.heap.size) r.lst vs) (hlen : (textO r).length ≤ 1000000) :
    Calls Tryd.prog 11 #[.agg #[.int .i64 0, .int .i64 r.n, .slice A1 r.nms.length c1, .slice A2 r.held.length c2, .slice A3 r.lst.length c3]] w fun e w' => e = .returned (.string (wa (textO r))) ∧ Gr w w' := by
  rw [textO_ok he] at hlen ⊢
  have hq1 := q1.2
  have hq2 := q2.2
  have hq3 := q3.2
  unfold maxLen at hq1 hq2 hq3
  -- the worlds
  have hG1 := Gr.alloc w (.cells #[.int .i64 0, .int .i64 r.n, .slice A1 r.nms.length c1, .slice A2 r.held.length c2, .slice A3 r.lst.length c3] 26)
  have hB1 := Blk.new w 26 #[.int .i64 0, .int .i64 r.n, .slice A1 r.nms.length c1, .slice A2 r.held.length c2, .slice A3 r.lst.length c3]
  have hs1 : (w.alloc (.cells #[.int .i64 0, .int .i64 r.n, .slice A1 r.nms.length c1, .slice A2 r.held.length c2, .slice A3 r.lst.length c3] 26)).heap.size = w.heap.size + 1 := by simp
  have hI0 : IsB (w.heap.size + 1) (w.heap.size + 1) [] ((w.alloc (.cells #[.int .i64 0, .int .i64 r.n, .slice A1 r.nms.length c1, .slice A2 r.held.length c2, .slice A3 r.lst.length c3] 26)).alloc (.cells #[.pointer none, .slice none 0 0] 63)) := by
    have := isb_newQ (w.alloc (.cells #[.int .i64 0, .int .i64 r.n, .slice A1 r.nms.length c1, .slice A2 r.held.length c2, .slice A3 r.lst.length c3] 26)) (w.heap.size + 1) (by omega)
    rwa [hs1] at this
  have hG2 := Gr.trans hG1 (Gr.alloc (w.alloc (.cells #[.int .i64 0, .int .i64 r.n, .slice A1 r.nms.length c1, .slice A2 r.held.length c2, .slice A3 r.lst.length c3] 26)) (.cells #[.pointer none, .slice none 0 0] 63))
  have hB2 := hB1.alloc (.cells #[.pointer none, .slice none 0 0] 63)
  have cI := fun W (hg : Gr w W) => itoa_any r.n W (hP.below hg) h0 h1
  rw [show str (Lib.itoa r.n) = wa (Lib.itoa r.n) from rfl] at cI
  have hil := itoa_20 h0 h1
  have hL1 : 3 + (Lib.itoa r.n).length + (ledW 43 r.nl).length + (ledW 33 r.hl).length + (ledW 61 r.xl).length ≤ 1000000 := by
    unfold headR at hlen
    simp only [List.length_append, List.length_cons, List.length_nil] at hlen
    omega
  have cW : ∀ W, IsB (w.heap.size + 1) (w.heap.size + 1) [] W → w.heap.size + 1 ≤ W.heap.size → Calls Tryd.prog 31 #[.pointer (some ⟨w.heap.size + 1, 0, none⟩), .string (⟨#[111, 107, 32]⟩ ++ wa (Lib.itoa r.n))] W fun e w' => (∃ v, e = .returned v) ∧ IsB (w.heap.size + 1) (w.heap.size + 1) ([111, 107, 32] ++ Lib.itoa r.n) w' ∧ Below (w.heap.size + 1) W w' ∧ KeepTQ W w' := fun W hI hs => by
    have := write_any (w.heap.size + 1) (w.heap.size + 1) [] ([111, 107, 32] ++ Lib.itoa r.n) W hI (by simp; omega) hs
    rw [← wa_append] at this
    exact this
  have cN : ∀ W, Gr w W → IsB (w.heap.size + 1) (w.heap.size + 1) ([111, 107, 32] ++ Lib.itoa r.n) W → w.heap.size + 1 ≤ W.heap.size → Calls Tryd.prog 32 #[.pointer (some ⟨w.heap.size + 1, 0, none⟩), .string ⟨#[43]⟩, .slice A1 r.nms.length c1] W fun e w' => (∃ v, e = .returned v) ∧ IsB (w.heap.size + 1) (w.heap.size + 1) ([111, 107, 32] ++ Lib.itoa r.n ++ ledW 43 r.nl) w' ∧ Below (w.heap.size + 1) W w' ∧ KeepTQ W w' :=
    fun W hg hI hs => words_any _ _ 43 r.nms A1 c1 _ W hI hs q1.1 q1.2 (fun w' hb _ => (k1.keep fun p hp => (Below.trans hg (hb.mono (Nat.le_succ _))).cell hp).mono fun _ _ => trivial) (by show _ + (ledW 43 r.nl).length ≤ _; simp; omega)
  have cH : ∀ W, Gr w W → IsB (w.heap.size + 1) (w.heap.size + 1) ([111, 107, 32] ++ Lib.itoa r.n ++ ledW 43 r.nl) W → w.heap.size + 1 ≤ W.heap.size → Calls Tryd.prog 32 #[.pointer (some ⟨w.heap.size + 1, 0, none⟩), .string ⟨#[33]⟩, .slice A2 r.held.length c2] W fun e w' => (∃ v, e = .returned v) ∧ IsB (w.heap.size + 1) (w.heap.size + 1) (headR r) w' ∧ Below (w.heap.size + 1) W w' ∧ KeepTQ W w' :=
    fun W hg hI hs => words_any _ _ 33 r.held A2 c2 _ W hI hs q2.1 q2.2 (fun w' hb _ => (k2.keep fun p hp => (Below.trans hg (hb.mono (Nat.le_succ _))).cell hp).mono fun _ _ => trivial) (by show _ + (ledW 33 r.hl).length ≤ _; simp; omega)
  have cX : ∀ W g t k, IsB (w.heap.size + 1) (w.heap.size + 1) (headR r ++ ledW 61 (r.xl.take k)) W → w.heap.size + 1 ≤ W.heap.size → Blk W g 9 #[.string t] → r.xl[k]? = some t.data.toList → Calls Tryd.prog 32 #[.pointer (some ⟨w.heap.size + 1, 0, none⟩), .string ⟨#[61]⟩, .slice (some ⟨g, 0, none⟩) 1 1] W fun e w' => (∃ v, e = .returned v) ∧ IsB (w.heap.size + 1) (w.heap.size + 1) (headR r ++ ledW 61 (r.xl.take (k + 1))) w' ∧ Below (w.heap.size + 1) W w' ∧ KeepTQ W w' := by
    intro W g t k hI hs hBg hk
    have e : headR r ++ ledW 61 (r.xl.take (k + 1)) = headR r ++ ledW 61 (r.xl.take k) ++ ledW 61 ([t].map (·.data.toList)) := by
      rw [ledW_take hk, List.append_assoc]
      simp [ledW]
    rw [e]
    refine words_any _ _ 61 [t] (some ⟨g, 0, none⟩) 1 _ W hI hs (Nat.le_refl _) (by unfold maxLen; decide) (fun w' hb hkp => rk_one (hkp.blk hBg (by decide) (by decide))) ?_
    have h3 := ledW_take_len 61 r.xl (k + 1)
    rw [← List.length_append, ← e]
    unfold headR
    simp only [List.length_append, List.length_cons, List.length_nil]
    omega
  have cS : ∀ W, IsB (w.heap.size + 1) (w.heap.size + 1) (headR r ++ ledW 61 r.xl) W → w.heap.size + 1 ≤ W.heap.size → Calls Tryd.prog 34 #[.pointer (some ⟨w.heap.size + 1, 0, none⟩)] W fun e w' => e = .returned (.string (wa (headR r ++ ledW 61 r.xl))) ∧ Below (w.heap.size + 1) W w' :=
    fun W hI hs => Tryd.Builder_String_any (w.heap.size + 1) (w.heap.size + 1) _ W hI hs
  have cD : ∀ W v b, Gr w W → RkB w (· < w.heap.size) v b → b.length ≤ 1000000 → Calls Tryd.prog 33 #[v] W fun e w' => e = .returned (.string (wa (hexL b))) ∧ Gr W w' := fun W v b hg hr hl =>
    digits_any W v b ((hr.rd (fun _ h => h)).gr (Nat.le_refl _) hg |> fun h => h.more hg.size) hl
  have hfull : r.xl.take r.lst.length = r.xl := List.take_of_length_le (by unfold Rep.xl; rw [List.length_map]; exact Nat.le_refl _)
  have HFull := Lib.hid hfull
  have HX := Lib.hid cX
  have HLL := Lib.hid hL1
  have hts : (wa (Lib.itoa r.n)).size ≤ 20 := by rw [wa_size]; exact hil
  have z1 : ¬ 9223372036854775807 < 3 + (wa (Lib.itoa r.n)).size := by omega
  have hpl : ∀ (k : Nat) (b : List UInt8), r.lst[k]? = some b → r.xl[k]? = some (hexL b) := fun k b h => by unfold Rep.xl; rw [List.getElem?_map, h]; rfl
  have hbl : ∀ (k : Nat) (b : List UInt8), r.lst[k]? = some b → b.length ≤ 100000 * 10 := fun k b h => by
    have h1 := ledW_take_len 61 r.xl (k + 1)
    rw [ledW_take (hpl k b h)] at h1
    have h2 := hexL_len b
    simp only [List.length_append, List.length_cons] at h1
    omega
  have HPL := Lib.hid hpl
  have HBL := Lib.hid hbl
  clear hbl hpl hfull hL1 hlen hil cX hP h0 h1
  generalize hH : headR r = H at *
  generalize hN1 : [111, 107, 32] ++ Lib.itoa r.n ++ ledW 43 r.nl = N1 at *
  generalize hN0 : [111, 107, 32] ++ Lib.itoa r.n = N0 at *
  generalize wa (Lib.itoa r.n) = tn at *
  clear hH hN1 hN0 HLL
  go_enter Tryd.func11, Tryd.ntmps11
  go_wp2_with (first
    | (go_at_call 30; (with_reducible refine (cI _ hG2).mono ?_); rintro e w3 ⟨rfl, hb3⟩
       have hI3 := isb_grQ hI0 hb3
       have hG3 := Gr.trans hG2 hb3
       have hB3 := hB2.below hb3 hB2.lt
       have hs3 : w.heap.size + 1 ≤ w3.heap.size := hB3.lt)
    | (go_at_call 31; (with_reducible refine (cW _ hI3 hs3).mono ?_); rintro e w4 ⟨⟨v4, rfl⟩, hI4, hb4, hk4⟩
       have hG4 := Below.trans hG3 (hb4.mono (Nat.le_succ _))
       have hB4 := hB3.below hb4 (Nat.lt_succ_self _)
       have hs4 : w.heap.size + 1 ≤ w4.heap.size := hB4.lt
       obtain ⟨a0, a1, a2, a3, a4⟩ := five_cells hB4)
    | (go_at_call 32; (with_reducible refine (cN _ hG4 hI4 hs4).mono ?_); rintro e w5 ⟨⟨v5, rfl⟩, hI5, hb5, hk5⟩
       have hG5 := Below.trans hG4 (hb5.mono (Nat.le_succ _))
       have hB5 := hB4.below hb5 (Nat.lt_succ_self _)
       have hs5 : w.heap.size + 1 ≤ w5.heap.size := hB5.lt
       obtain ⟨b0, b1, b2, b3, b4⟩ := five_cells hB5)
    | (go_at_call 32; (with_reducible refine (cH _ hG5 hI5 hs5).mono ?_); rintro e w6 ⟨⟨v6, rfl⟩, hI6, hb6, hk6⟩
       have hG6 := Below.trans hG5 (hb6.mono (Nat.le_succ _))
       have hB6 := hB5.below hb6 (Nat.lt_succ_self _)
       have hs6 : w.heap.size + 1 ≤ w6.heap.size := hB6.lt
       obtain ⟨d0, d1, d2, d3, d4⟩ := five_cells hB6))
  all_goals (try (exfalso; omega))
  go_loopw [32] (fun v32 wr => ∃ k : Nat, v32 = .int .i64 (k : Int) ∧ k ≤ r.lst.length ∧ IsB (w.heap.size + 1) (w.heap.size + 1) (H ++ ledW 61 (r.xl.take k)) wr ∧ Gr w wr ∧ w.heap.size + 1 ≤ wr.heap.size) (fun v32 _ => r.lst.length - (intOf v32).toNat)
  case atStart => exact ⟨0, rfl, Nat.zero_le _, by rw [List.take_zero, ledW_nil, List.append_nil]; exact hI6, hG6, hs6⟩
  case round =>
    obtain ⟨k, rfl, hk, hIr, hgw, hsr⟩ := hrel
    by_cases hlt : k < r.lst.length
    · obtain ⟨bb, hbk⟩ : ∃ x, r.lst[k]? = some x := ⟨_, List.getElem?_eq_getElem hlt⟩
      obtain ⟨v, hv, hRk⟩ := RkLs.at_ r.lst vs k bb l3 hbk
      obtain ⟨ad, rfl, hadb, hcell⟩ := k3.2 (by omega)
      have p0 := (hgw.cell (p := ad.add k) (by rw [block_of_add]; exact hadb)).trans (hcell k v hv)
      have hxl := HPL.out k bb hbk
      have hbb := HBL.out k bb hbk
      have cDk := cD wr v bb hgw hRk hbb
      obtain ⟨Av, cv, ev, hcv, -⟩ := hRk
      subst ev
      rw [← wa_data (hexL bb)] at hxl
      generalize wa (hexL bb) = t at *
      have cXk := fun W g hI hs hB => HX.out W g t k hI hs hB hxl
      clear hcell hbk hv hxl hbb hadb hcv
      go_wp2_with (first
        | (go_at_call 33; (with_reducible refine cDk.mono ?_); rintro e w7 ⟨rfl, hb7⟩
           have hG7 := Gr.trans hgw hb7
           have hGn := Gr.alloc w7 (.cells #[.string t] 9)
           have hI8 := isb_grQ (isb_grQ hIr hb7) hGn
           have hBn := Blk.new w7 9 #[.string t]
           have hs8 : w.heap.size + 1 ≤ (w7.alloc (.cells #[.string t] 9)).heap.size := by have h1 := hb7.size; have h2 := hGn.size; omega
           have hG8 := Gr.trans hG7 hGn)
        | (go_at_call 32; (with_reducible refine (cXk _ _ hI8 hs8 hBn).mono ?_); rintro e w9 ⟨⟨v9, rfl⟩, hI9, hb9, hk9⟩))
      all_goals (try (exfalso; omega))
      go_roundw
      case rel => exact ⟨k + 1, by go_num, hlt, hI9, Below.trans hG8 (hb9.mono (Nat.le_succ _)), by have := hb9.size; omega⟩
      case measure => simp [intOf]; omega
    · obtain rfl : k = r.lst.length := by omega
      rw [HFull.out] at hIr
      have cSk := cS wr hIr hsr
      go_wp2_with (go_at_call 34; (with_reducible refine cSk.mono ?_); rintro e w9 ⟨rfl, hb9⟩)
      all_goals (try (exfalso; omega))
      go_ret
      exact ⟨rfl, Below.trans hgw (hb9.mono (Nat.le_succ _))⟩
theorem ptextO_any (r : Rep) (v : Value) (w : World) (hP : Pow w) (hr : RdRep w (· < w.heap.size) r v) (he0 : -9223372036854775808 ≤ r.err) (he1 : r.err ≤ 9223372036854775807) (h0 : -9223372036854775808 ≤ r.n) (h1 : r.n ≤ 9223372036854775807) (hlen : (textO r).length ≤ 1000000) :
    Calls Tryd.prog 11 #[v] w fun e w' => e = .returned (.string (wa (textO r))) ∧ Gr w w' := by
  obtain ⟨v1, v2, v3, rfl, ⟨A1, c1, rfl, q1, k1⟩, ⟨A2, c2, rfl, q2, k2⟩, ⟨A3, c3, vs, rfl, q3, k3, l3⟩⟩ := hr
  by_cases he : r.err = 0
  · rw [he]
    exact ptextO_ok r A1 A2 A3 c1 c2 c3 vs w hP he h0 h1 q1 q2 q3 k1 k2 k3 l3 hlen
  · exact ptextO_err r _ _ _ w hP he he0 he1 ⟨_, _, _, rfl⟩ ⟨_, _, _, rfl⟩ ⟨_, _, _, rfl⟩
end Go.Proofs.YtppnlijeonneeaaDoor
