/- Scopes as texts: plain laws: may a scope be; its text; how words are read. Scopes as texts: plain laws: what is written is read. Scopes as texts: plain laws: the words of a scope are read as it. Scopes as texts: plain laws: names are short; a scope of few parts. Scopes: which way may a scope go? plain laws. Scopes as texts: plain laws: the text of a list, part by part. -/
import Derived.Test.YtppnlijeonneeaaDoorTree
import Derived.Test.YtppnlijeonneeaaDoorSpanN
import Derived.Test.YtppnlijeonneeaaDoorSpanT
import Derived.Test.YtppnlijeonneeaaDoorEvName
import Derived.Lib.SplitLaws
import Derived.Lib.Join
namespace Go.Proofs.YtppnlijeonneeaaDoor
open Go Go.RowKit

def wa (l : List UInt8) : ByteArray := ⟨l.toArray⟩
theorem wa_data (l : List UInt8) : (wa l).data.toList = l := by simp [wa]
theorem wa_inj {a b : List UInt8} (h : wa a = wa b) : a = b := by rw [← wa_data a, h, wa_data]
theorem data_wa (s : ByteArray) : wa s.data.toList = s := by simp [wa]
theorem wa_size (l : List UInt8) : (wa l).size = l.length := by simp [wa, ByteArray.size]
theorem wa_append (a b : List UInt8) : wa a ++ wa b = wa (a ++ b) := by
  apply ByteArray.ext
  simp [wa]

def scOp : Sc → Int
  | .mk o _ _ _ _ => o
/-- Have the fields what a kind has? -/
def fieldsW (op : Int) (nm : ByteArray) (fr to_ : Int) : Bool :=
  decide (1 ≤ op ∧ op ≤ 8) && (if op = 2 ∨ op = 3 ∨ op = 4 then nameD nm else decide (nm.size = 0)) && (if op = 5 then decide (0 ≤ fr ∧ fr ≤ to_ ∧ to_ ≤ 1099511627776) else decide (fr = 0 ∧ to_ = 0))
def kidsW (op : Int) (n : Nat) : Bool := if op = 6 ∨ op = 7 then decide (2 ≤ n) else if op = 8 then decide (n = 1) else decide (n = 0)
mutual
/-- How many nodes more there may be behind a scope that may be. -/
def mayS : Sc → Nat → Nat → Option Nat
  | .mk op nm fr to_ ks, n, d => if n = 0 ∨ d = 0 then none else if fieldsW op nm fr to_ = true ∧ kidsW op ks.length = true then mayL ks (n - 1) (d - 1) else none
def mayL : List Sc → Nat → Nat → Option Nat
  | [], n, _ => some n
  | k :: ks, n, d => match mayS k n d with
    | none => none
    | some m => mayL ks m d
end
theorem mayL_cons {k : Sc} {ks : List Sc} {n d : Nat} : mayL (k :: ks) n d = match mayS k n d with | none => none | some m => mayL ks m d := by rw [mayL]
theorem mayL_nil {n d : Nat} : mayL [] n d = some n := by rw [mayL]
theorem mayS_0 {op fr to_ : Int} {nm : ByteArray} {ks : List Sc} {n d : Nat} (h : n = 0 ∨ d = 0) : mayS (.mk op nm fr to_ ks) n d = none := by rw [mayS, if_pos h]
theorem mayS_1 {op fr to_ : Int} {nm : ByteArray} {ks : List Sc} {n d : Nat} (h : ¬ (n = 0 ∨ d = 0)) : mayS (.mk op nm fr to_ ks) n d = if fieldsW op nm fr to_ = true ∧ kidsW op ks.length = true then mayL ks (n - 1) (d - 1) else none := by rw [mayS, if_neg h]
mutual
theorem mayS_lt : ∀ (x : Sc) (n d m : Nat), mayS x n d = some m → m < n
  | .mk op nm fr to_ ks, n, d, m, h => by
    rw [mayS] at h
    split at h
    · cases h
    · rename_i h0
      split at h
      · have := mayL_le ks _ _ _ h
        omega
      · cases h
theorem mayL_le : ∀ (xs : List Sc) (n d m : Nat), mayL xs n d = some m → m + xs.length ≤ n
  | [], n, d, m, h => by rw [mayL_nil] at h; cases h; exact Nat.le_refl _
  | k :: ks, n, d, m, h => by
    rw [mayL_cons] at h
    cases hk : mayS k n d with
    | none => rw [hk] at h; cases h
    | some q =>
      rw [hk] at h
      have h1 := mayS_lt k n d q hk
      have h2 := mayL_le ks q d m h
      rw [List.length_cons]; omega
end
theorem mayL_many {ks : List Sc} {n d : Nat} (h : n < ks.length) : mayL ks n d = none := by
  cases e : mayL ks n d with
  | none => rfl
  | some m => have := mayL_le ks n d m e; omega
/-- The parts of a scope that may be. -/
theorem mayS_parts {op fr to_ : Int} {nm : ByteArray} {ks : List Sc} {n d m : Nat} (h : mayS (.mk op nm fr to_ ks) n d = some m) :
    1 ≤ n ∧ 1 ≤ d ∧ (1 ≤ op ∧ op ≤ 8) ∧ (if op = 2 ∨ op = 3 ∨ op = 4 then nameD nm = true else nm.size = 0) ∧ (if op = 5 then 0 ≤ fr ∧ fr ≤ to_ ∧ to_ ≤ 1099511627776 else fr = 0 ∧ to_ = 0) ∧ kidsW op ks.length = true ∧ mayL ks (n - 1) (d - 1) = some m := by
  rw [mayS] at h
  split at h
  · cases h
  · rename_i h0
    split at h
    · rename_i h1
      obtain ⟨h1, h2⟩ := h1
      unfold fieldsW at h1
      rw [Bool.and_eq_true, Bool.and_eq_true, decide_eq_true_eq] at h1
      obtain ⟨⟨h3, h4⟩, h5⟩ := h1
      refine ⟨by omega, by omega, h3, ?_, ?_, h2, h⟩
      · by_cases hc : op = 2 ∨ op = 3 ∨ op = 4
        · rw [if_pos hc] at h4 ⊢; exact h4
        · rw [if_neg hc] at h4 ⊢; exact of_decide_eq_true h4
      · by_cases hc : op = 5
        · rw [if_pos hc] at h5 ⊢; exact of_decide_eq_true h5
        · rw [if_neg hc] at h5 ⊢; exact of_decide_eq_true h5
    · cases h

/-! Its text. -/
def parW (op : Int) (k : Sc) (t : List UInt8) : List UInt8 := if scOp k = 7 ∨ (scOp k = 6 ∧ op ≠ 7) then [40, 32] ++ t ++ [32, 41] else t
def sepW (op : Int) : List UInt8 := if op = 7 then [32, 111, 114, 32] else [32, 97, 110, 100, 32]
def wordW (op : Int) : List UInt8 := if op = 2 then [99, 97, 115, 101] else if op = 3 then [115, 117, 98, 106, 101, 99, 116] else [99, 108, 97, 115, 115]
mutual
def textS : Sc → List UInt8
  | .mk op nm fr to_ ks =>
    if op = 1 then [97, 108, 108] else
    if op = 2 ∨ op = 3 ∨ op = 4 then wordW op ++ [32] ++ nm.data.toList else
    if op = 5 then [116, 105, 109, 101, 32] ++ Lib.itoa fr ++ [45] ++ Lib.itoa to_ else
    if op = 8 then [110, 111, 116, 32] ++ (textL 8 ks).headD [] else
    Lib.join (textL op ks) (sepW op)
def textL (op : Int) : List Sc → List (List UInt8)
  | [] => []
  | k :: ks => parW op k (textS k) :: textL op ks
end
theorem textL_nil (op : Int) : textL op [] = [] := by rw [textL]
theorem textL_cons (op : Int) (k : Sc) (ks : List Sc) : textL op (k :: ks) = parW op k (textS k) :: textL op ks := by rw [textL]
theorem textL_len (op : Int) : ∀ ks : List Sc, (textL op ks).length = ks.length
  | [] => by rw [textL_nil]; rfl
  | k :: ks => by rw [textL_cons, List.length_cons, List.length_cons, textL_len op ks]
theorem itoa_13 {n : Int} (h0 : 0 ≤ n) (h : n ≤ 1099511627776) : (Lib.itoa n).length ≤ 13 := by
  obtain ⟨m, rfl⟩ : ∃ m : Nat, n = m := ⟨n.toNat, by omega⟩
  rw [Lib.itoa_nonneg]
  exact decDigits_le 12 m (by omega)
def sumW : List (List UInt8) → Nat
  | [] => 0
  | a :: r => a.length + 5 + sumW r
theorem join_sum (op : Int) : ∀ l : List (List UInt8), l ≠ [] → (Lib.join l (sepW op)).length + 5 ≤ sumW l
  | [], h => absurd rfl h
  | [a], _ => by rw [Lib.join_one]; exact Nat.le_refl _
  | a :: b :: r, _ => by
    have h := join_sum op (b :: r) (by simp)
    have e : Lib.join (a :: b :: r) (sepW op) = a ++ (sepW op ++ Lib.join (b :: r) (sepW op)) := by
      rw [Lib.join_cons, Lib.join_cons]
      simp [Lib.joinTail]
    have hs : (sepW op).length ≤ 5 := by unfold sepW; split <;> decide
    rw [e, sumW, List.length_append, List.length_append]
    omega
theorem parW_len (op : Int) (k : Sc) (t : List UInt8) : (parW op k t).length ≤ t.length + 4 := by
  unfold parW
  split
  · simp
  · omega
mutual
theorem textS_len : ∀ (x : Sc) (n d m : Nat), mayS x n d = some m → (textS x).length + 9 + 41 * m ≤ 41 * n
  | .mk op nm fr to_ ks, n, d, m, h => by
    obtain ⟨hn, hd, ho, hnm, hft, hk, hl⟩ := mayS_parts h
    have hs := textL_sum op ks _ _ _ hl
    have hle := mayL_le ks _ _ _ hl
    rw [textS]
    split
    · simp; omega
    · rename_i h1
      split
      · rename_i h2
        rw [if_pos h2] at hnm
        have h16 : nm.data.toList.length ≤ 16 := by
          unfold nameD at hnm
          simp only [Bool.and_eq_true, decide_eq_true_eq] at hnm
          have h3 := hnm.2.2
          have h4 : nm.data.toList.length = nm.size := Array.length_toList
          omega
        have hw : (wordW op).length ≤ 7 := by unfold wordW; split <;> (try split) <;> decide
        simp only [List.length_append, List.length_cons, List.length_nil]
        omega
      · rename_i h2
        split
        · rename_i h5
          rw [if_pos h5] at hft
          have ha := itoa_13 hft.1 (by omega)
          have hb := itoa_13 (n := to_) (by omega) hft.2.2
          simp only [List.length_append, List.length_cons, List.length_nil]
          omega
        · rename_i h5
          have ho8 : op = 6 ∨ op = 7 ∨ op = 8 := by omega
          split
          · rename_i h8
            subst h8
            match ks, hk with
            | [k], _ =>
              rw [textL_cons, textL_nil] at hs ⊢
              simp only [sumW, List.headD_cons, List.length_append, List.length_cons, List.length_nil] at hs ⊢
              omega
          · rename_i h8
            have hne : textL op ks ≠ [] := by
              intro e
              have h1 := textL_len op ks
              rw [e] at h1
              unfold kidsW at hk
              rw [if_pos (by omega), decide_eq_true_eq] at hk
              simp at h1
              omega
            have hj := join_sum op _ hne
            omega
theorem textL_sum (op : Int) : ∀ (xs : List Sc) (n d m : Nat), mayL xs n d = some m → sumW (textL op xs) + 41 * m ≤ 41 * n
  | [], n, d, m, h => by rw [mayL_nil] at h; cases h; rw [textL_nil, sumW]; omega
  | k :: ks, n, d, m, h => by
    rw [mayL_cons] at h
    cases hk : mayS k n d with
    | none => rw [hk] at h; cases h
    | some q =>
      rw [hk] at h
      have h1 := textS_len k n d q hk
      have h2 := textL_sum op ks q d m h
      have h3 := parW_len op k (textS k)
      rw [textL_cons, sumW]
      omega
end
/-- A scope's text, or the error. -/
def textW (x : Sc) : List UInt8 × Int := if (mayS x 24 8).isSome = true then (textS x, 0) else ([], 1)

/-! Words. -/
def addHd (c : UInt8) : List (List UInt8) → List (List UInt8)
  | [] => [[c]]
  | a :: r => (c :: a) :: r
/-- A text's words, parted by single blanks. -/
def splW : List UInt8 → List (List UInt8)
  | [] => [[]]
  | c :: l => if c = 32 then [] :: splW l else addHd c (splW l)
theorem splitK_add (c : UInt8) (hc : c ≠ 32) (l : List UInt8) : ∀ k : Nat, Lib.splitK [32] 0 k (c :: l) = addHd c (Lib.splitK [32] 0 k l)
  | 0 => rfl
  | k + 1 => by
    have hp : ([32] : List UInt8).isPrefixOf (c :: l) = false := by simp [List.isPrefixOf, Ne.symm hc]
    have hix : Lib.index (c :: l) [32] = if Lib.index l [32] == -1 then -1 else Lib.index l [32] + 1 := by rw [Lib.index, hp]; simp
    have hge := Lib.index_ge l [32]
    unfold Lib.splitK
    by_cases hm : Lib.index l [32] = -1
    · rw [hix, hm]
      rfl
    · obtain ⟨j, hj⟩ : ∃ j : Nat, Lib.index l [32] = j := ⟨(Lib.index l [32]).toNat, by omega⟩
      have h1 : ((j : Int) == -1) = false := by rw [beq_eq_false_iff_ne]; omega
      have h2 : ((j : Int) + 1 == -1) = false := by rw [beq_eq_false_iff_ne]; omega
      have h3 : ((j : Int) + 1).toNat = j + 1 := by omega
      have h4 : (j : Int).toNat = j := by omega
      rw [hix, hj, h1]
      simp only [Bool.false_eq_true, if_false, h2, h3, h4, addHd, Nat.add_zero]
      simp
theorem splW_eq : ∀ l : List UInt8, Lib.split l [32] = splW l
  | [] => by rw [Lib.split, Lib.count_one]; rfl
  | c :: l => by
    have ih := splW_eq l
    unfold Lib.split at ih ⊢
    by_cases hc : c = 32
    · subst hc
      rw [Lib.count_cons_eq, splW, if_pos rfl, Nat.add_comm 1, Lib.splitK]
      have hix : Lib.index (32 :: l) [32] = 0 := by rw [Lib.index]; simp [List.isPrefixOf]
      rw [hix]
      simp only [show ((0 : Int) == -1) = false from rfl, Bool.false_eq_true, if_false]
      simp [ih]
    · rw [Lib.count_cons_ne _ _ _ hc, splitK_add c hc, ih, splW, if_neg hc]
theorem splW_ne (l : List UInt8) : splW l ≠ [] := by
  cases l with
  | nil => simp [splW]
  | cons c l =>
    rw [splW]
    split
    · simp
    · cases splW l <;> simp [addHd]
theorem splW_word : ∀ (a : List UInt8), (∀ c ∈ a, c ≠ 32) → splW a = [a]
  | [], _ => rfl
  | c :: a, h => by rw [splW, if_neg (h c (by simp)), splW_word a (fun x hx => h x (by simp [hx]))]; rfl
theorem splW_app : ∀ (a r : List UInt8), (∀ c ∈ a, c ≠ 32) → splW (a ++ 32 :: r) = a :: splW r
  | [], r, _ => by rw [List.nil_append, splW, if_pos rfl]
  | c :: a, r, h => by rw [List.cons_append, splW, if_neg (h c (by simp)), splW_app a r (fun x hx => h x (by simp [hx]))]; rfl
theorem splW_join : ∀ (ws : List (List UInt8)), ws ≠ [] → (∀ a ∈ ws, ∀ c ∈ a, c ≠ 32) → splW (Lib.join ws [32]) = ws
  | [], h, _ => absurd rfl h
  | [a], _, h => by rw [Lib.join_one]; exact splW_word a (h a (by simp))
  | a :: b :: r, _, h => by
    have e : Lib.join (a :: b :: r) [32] = a ++ 32 :: Lib.join (b :: r) [32] := by
      rw [Lib.join_cons, Lib.join_cons]
      simp [Lib.joinTail]
    rw [e, splW_app a _ (h a (by simp)), splW_join (b :: r) (by simp) (fun x hx => h x (by simp [hx]))]

/-! The reader. -/
structure Wst where
  l : List ByteArray
  fail : Bool
/-- The next word. -/
def takeW (s : Wst) : ByteArray × Wst := if s.fail = true then (⟨#[]⟩, s) else match s.l with
  | [] => (⟨#[]⟩, ⟨[], true⟩)
  | a :: r => (a, ⟨r, false⟩)
/-- Is that the next word? -/
def aheadW (m : ByteArray) (s : Wst) : Bool := !s.fail && (match s.l with
  | [] => false
  | a :: _ => decide (a = m))
def scN : Sc := .mk 0 ⟨#[]⟩ 0 0 []
def failW (s : Wst) : Wst := ⟨s.l, true⟩
def sevW (one : Wst → Sc × Wst) (m : ByteArray) : Nat → List Sc → Wst → List Sc × Wst
  | 0, ks, s => (ks, s)
  | n + 1, ks, s => if aheadW m s = true then sevW one m n (ks ++ [(one (takeW s).2).1]) (one (takeW s).2).2 else (ks, s)
def aloneS (op : Int) : List Sc → Sc
  | [x] => x
  | ks => .mk op ⟨#[]⟩ 0 0 ks
def manyW (one : Wst → Sc × Wst) (op : Int) (m : ByteArray) (s : Wst) : Sc × Wst :=
  (aloneS op (sevW one m (s.l.length + 1) [(one s).1] (one s).2).1, (sevW one m (s.l.length + 1) [(one s).1] (one s).2).2)
abbrev bAnd : ByteArray := ⟨#[97, 110, 100]⟩
abbrev bOr : ByteArray := ⟨#[111, 114]⟩
abbrev bNot : ByteArray := ⟨#[110, 111, 116]⟩
abbrev bAll : ByteArray := ⟨#[97, 108, 108]⟩
abbrev bTime : ByteArray := ⟨#[116, 105, 109, 101]⟩
abbrev bOpen : ByteArray := ⟨#[40]⟩
abbrev bShut : ByteArray := ⟨#[41]⟩
abbrev bCase : ByteArray := ⟨#[99, 97, 115, 101]⟩
abbrev bSub : ByteArray := ⟨#[115, 117, 98, 106, 101, 99, 116]⟩
abbrev bClass : ByteArray := ⟨#[99, 108, 97, 115, 115]⟩
/-- From, and to. -/
def spanW (w : List UInt8) : Option (Int × Int) :=
  if 0 ≤ numD (Lib.cut w [45]).1 13 ∧ 0 ≤ numD (Lib.cut w [45]).2.1 13 ∧ numD (Lib.cut w [45]).1 13 ≤ numD (Lib.cut w [45]).2.1 13 ∧ numD (Lib.cut w [45]).2.1 13 ≤ 1099511627776
  then some (numD (Lib.cut w [45]).1 13, numD (Lib.cut w [45]).2.1 13) else none
def timeW (s : Wst) : Sc × Wst := match spanW (takeW s).1.data.toList with
  | some (a, b) => (.mk 5 ⟨#[]⟩ a b [], (takeW s).2)
  | none => (scN, failW (takeW s).2)
def opW_ (w : ByteArray) : Int := if w = bCase then 2 else if w = bSub then 3 else if w = bClass then 4 else 0
def namedW (w : ByteArray) (s : Wst) : Sc × Wst := if opW_ w ≠ 0 ∧ nameD (takeW s).1 = true then (.mk (opW_ w) (takeW s).1 0 0 [], (takeW s).2) else (scN, failW (takeW s).2)
/-- A factor; so many may be within it, and one. -/
def factW : Nat → Wst → Sc × Wst
  | 0, s => (scN, failW s)
  | d + 1, s =>
    if (takeW s).1 = bNot then (.mk 8 ⟨#[]⟩ 0 0 [(factW d (takeW s).2).1], (factW d (takeW s).2).2) else
    if (takeW s).1 = bOpen then
      ((manyW (manyW (factW d) 6 bAnd) 7 bOr (takeW s).2).1,
        if (takeW (manyW (manyW (factW d) 6 bAnd) 7 bOr (takeW s).2).2).1 = bShut then (takeW (manyW (manyW (factW d) 6 bAnd) 7 bOr (takeW s).2).2).2 else failW (takeW (manyW (manyW (factW d) 6 bAnd) 7 bOr (takeW s).2).2).2) else
    if (takeW s).1 = bAll then (.mk 1 ⟨#[]⟩ 0 0 [], (takeW s).2) else
    if (takeW s).1 = bTime then timeW (takeW s).2 else namedW (takeW s).1 (takeW s).2
def termW (d : Nat) : Wst → Sc × Wst := manyW (factW d) 6 bAnd
def wholeW (d : Nat) : Wst → Sc × Wst := manyW (termW d) 7 bOr
/-- A text's scope, or the error. -/
def parseW (l : List UInt8) : Sc × Int :=
  if 1000 < l.length then (scN, 3) else
  if (wholeW 41 ⟨(splW l).map wa, false⟩).2.fail = true ∨ (wholeW 41 ⟨(splW l).map wa, false⟩).2.l ≠ [] then (scN, 2) else
  if (mayS (wholeW 41 ⟨(splW l).map wa, false⟩).1 24 8).isSome = true then ((wholeW 41 ⟨(splW l).map wa, false⟩).1, 0) else (scN, 1)
end Go.Proofs.YtppnlijeonneeaaDoor

namespace Go.Proofs.YtppnlijeonneeaaDoor
open Go Go.RowKit

theorem digits_47 (n : Nat) : ∀ c ∈ Lib.decDigits n, 48 ≤ c.toNat ∧ c.toNat ≤ 57 := by
  induction n using Nat.strongRecOn with
  | _ n ih =>
    have hd : ∀ k : Nat, k < 10 → 48 ≤ (UInt8.ofNat (48 + k)).toNat ∧ (UInt8.ofNat (48 + k)).toNat ≤ 57 := fun k hk => by
      have : (UInt8.ofNat (48 + k)).toNat = 48 + k := by rw [UInt8.toNat_ofNat']; exact Nat.mod_eq_of_lt (by omega)
      omega
    intro c hc
    rw [Lib.decDigits] at hc
    split at hc
    · rename_i h
      simp only [List.mem_singleton] at hc
      subst hc
      exact hd n h
    · rename_i h
      rw [List.mem_append, List.mem_singleton] at hc
      rcases hc with hc | rfl
      · exact ih _ (by omega) c hc
      · exact hd _ (by omega)
theorem itoa_digits {n : Int} (h : 0 ≤ n) : ∀ c ∈ Lib.itoa n, 48 ≤ c.toNat ∧ c.toNat ≤ 57 := by
  obtain ⟨m, rfl⟩ : ∃ m : Nat, n = m := ⟨n.toNat, by omega⟩
  rw [Lib.itoa_nonneg]
  exact digits_47 m
theorem itoa_ne (n : Nat) : Lib.decDigits n ≠ [] := by
  rw [Lib.decDigits]
  split
  · simp
  · simp
theorem numD_itoa {n : Int} (h0 : 0 ≤ n) (h : n ≤ 1099511627776) : numD (Lib.itoa n) 13 = n := by
  have hl := itoa_13 h0 h
  obtain ⟨m, rfl⟩ : ∃ m : Nat, n = m := ⟨n.toNat, by omega⟩
  rw [Lib.itoa_nonneg] at hl ⊢
  have hn : 1 ≤ (Lib.decDigits m).length := by
    have := itoa_ne m
    cases e : Lib.decDigits m with
    | nil => exact absurd e this
    | cons a r => simp
  unfold numD
  rw [if_neg, decFrom_digits]
  rintro (h | h | ⟨h1, h2⟩)
  · omega
  · omega
  · exact digits_head m h1 h2
theorem index_45 : ∀ (a b : List UInt8), (∀ c ∈ a, c ≠ 45) → Lib.index (a ++ 45 :: b) [45] = (a.length : Int)
  | [], b, _ => by rw [List.nil_append, Lib.index]; simp [List.isPrefixOf]
  | c :: a, b, h => by
    have ih := index_45 a b (fun x hx => h x (by simp [hx]))
    have hc : c ≠ 45 := h c (by simp)
    have hp : ([45] : List UInt8).isPrefixOf (c :: (a ++ 45 :: b)) = false := by simp [List.isPrefixOf, Ne.symm hc]
    rw [List.cons_append, Lib.index, hp, ih]
    have h1 : ((a.length : Int) == -1) = false := by rw [beq_eq_false_iff_ne]; omega
    simp [h1]
theorem cut_45 (a b : List UInt8) (h : ∀ c ∈ a, c ≠ 45) : Lib.cut (a ++ 45 :: b) [45] = (a, b, true) := by
  unfold Lib.cut
  rw [index_45 a b h, if_pos (by omega)]
  have e : ((a.length : Int)).toNat = a.length := by omega
  rw [e, List.take_left]
  congr 1
  rw [show a ++ 45 :: b = (a ++ [45]) ++ b by simp, show a.length + [(45 : UInt8)].length = (a ++ [45]).length by simp, List.drop_left]
theorem spanW_text {a b : Int} (h0 : 0 ≤ a) (h1 : a ≤ b) (h2 : b ≤ 1099511627776) : spanW (Lib.itoa a ++ [45] ++ Lib.itoa b) = some (a, b) := by
  have hc : Lib.cut (Lib.itoa a ++ [45] ++ Lib.itoa b) [45] = (Lib.itoa a, Lib.itoa b, true) := by
    rw [List.append_assoc]
    exact cut_45 _ _ fun c hc e => by
      have := itoa_digits h0 c hc
      rw [e] at this
      exact absurd this.1 (by decide)
  unfold spanW
  rw [hc]
  dsimp only
  rw [numD_itoa h0 (by omega), numD_itoa (by omega) h2, if_pos ⟨h0, by omega, h1, h2⟩]

/-! A scope's words. -/
def parQ (op : Int) (k : Sc) (ws : List (List UInt8)) : List (List UInt8) := if scOp k = 7 ∨ (scOp k = 6 ∧ op ≠ 7) then [40] :: (ws ++ [[41]]) else ws
def opQ (op : Int) : List UInt8 := if op = 7 then [111, 114] else [97, 110, 100]
def joinQ (m : List UInt8) : List (List (List UInt8)) → List (List UInt8)
  | [] => []
  | a :: r => a ++ (r.map (m :: ·)).flatten
mutual
def wdsS : Sc → List (List UInt8)
  | .mk op nm fr to_ ks =>
    if op = 1 then [[97, 108, 108]] else
    if op = 2 ∨ op = 3 ∨ op = 4 then [wordW op, nm.data.toList] else
    if op = 5 then [[116, 105, 109, 101], Lib.itoa fr ++ [45] ++ Lib.itoa to_] else
    if op = 8 then [110, 111, 116] :: (wdsL 8 ks).headD [] else
    joinQ (opQ op) (wdsL op ks)
def wdsL (op : Int) : List Sc → List (List (List UInt8))
  | [] => []
  | k :: ks => parQ op k (wdsS k) :: wdsL op ks
end
theorem wdsL_nil (op : Int) : wdsL op [] = [] := by rw [wdsL]
theorem wdsL_cons (op : Int) (k : Sc) (ks : List Sc) : wdsL op (k :: ks) = parQ op k (wdsS k) :: wdsL op ks := by rw [wdsL]
theorem join_app {a b : List (List UInt8)} (ha : a ≠ []) (hb : b ≠ []) : Lib.join (a ++ b) [32] = Lib.join a [32] ++ [32] ++ Lib.join b [32] := by
  obtain ⟨x, r, rfl⟩ : ∃ x r, a = x :: r := by cases a with | nil => exact absurd rfl ha | cons x r => exact ⟨x, r, rfl⟩
  obtain ⟨y, q, rfl⟩ : ∃ x r, b = x :: r := by cases b with | nil => exact absurd rfl hb | cons x r => exact ⟨x, r, rfl⟩
  rw [List.cons_append, Lib.join_cons, Lib.join_cons, Lib.join_cons]
  simp [Lib.joinTail]
/-- Good words: there are some, and none has a blank. -/
def GoodW (ws : List (List UInt8)) : Prop := ws ≠ [] ∧ ∀ a ∈ ws, ∀ c ∈ a, c ≠ 32
theorem parQ_good {op : Int} {k : Sc} {ws : List (List UInt8)} (h : GoodW ws) : GoodW (parQ op k ws) := by
  unfold parQ
  split
  · refine ⟨by simp, fun a ha => ?_⟩
    simp only [List.mem_cons, List.mem_append, List.not_mem_nil, or_false] at ha
    rcases ha with rfl | ha | rfl
    · intro c hc; simp only [List.mem_singleton] at hc; subst hc; decide
    · exact h.2 a ha
    · intro c hc; simp only [List.mem_singleton] at hc; subst hc; decide
  · exact h
theorem parQ_text {op : Int} {k : Sc} {ws : List (List UInt8)} (h : GoodW ws) : parW op k (Lib.join ws [32]) = Lib.join (parQ op k ws) [32] := by
  unfold parW parQ
  split
  · rw [show [40] :: (ws ++ [[41]]) = [[40]] ++ (ws ++ [[41]]) by rfl, join_app (by simp) (by simp), join_app h.1 (by simp), Lib.join_one, Lib.join_one]
    simp
  · rfl
theorem opQ_good (op : Int) : ∀ c ∈ opQ op, c ≠ 32 := by unfold opQ; split <;> decide
theorem joinQ_good {m : List UInt8} (hm : ∀ c ∈ m, c ≠ 32) {l : List (List (List UInt8))} (hl : l ≠ []) (h : ∀ a ∈ l, GoodW a) : GoodW (joinQ m l) := by
  cases l with
  | nil => exact absurd rfl hl
  | cons a r =>
    refine ⟨?_, fun x hx => ?_⟩
    · rw [joinQ]
      have := (h a (by simp)).1
      intro e
      exact this (List.append_eq_nil_iff.1 e).1
    · rw [joinQ, List.mem_append] at hx
      rcases hx with hx | hx
      · exact (h a (by simp)).2 x hx
      · rw [List.mem_flatten] at hx
        obtain ⟨y, hy, hxy⟩ := hx
        rw [List.mem_map] at hy
        obtain ⟨z, hz, rfl⟩ := hy
        rw [List.mem_cons] at hxy
        rcases hxy with rfl | hxy
        · exact hm
        · exact (h z (by simp [hz])).2 x hxy
theorem joinQ_text (op : Int) : ∀ {l : List (List (List UInt8))}, l ≠ [] → (∀ a ∈ l, GoodW a) → Lib.join (l.map fun ws => Lib.join ws [32]) (sepW op) = Lib.join (joinQ (opQ op) l) [32]
  | [], h, _ => absurd rfl h
  | [a], _, _ => by simp [joinQ, Lib.join_one]
  | a :: b :: r, _, h => by
    have ih := joinQ_text op (l := b :: r) (by simp) (fun x hx => h x (by simp [hx]))
    have e : Lib.join ((a :: b :: r).map fun ws => Lib.join ws [32]) (sepW op) = Lib.join a [32] ++ (sepW op ++ Lib.join ((b :: r).map fun ws => Lib.join ws [32]) (sepW op)) := by
      rw [List.map_cons, List.map_cons, Lib.join_cons, Lib.join_cons]
      simp [Lib.joinTail]
    have e2 : joinQ (opQ op) (a :: b :: r) = a ++ ([opQ op] ++ joinQ (opQ op) (b :: r)) := by simp [joinQ]
    have hb := (joinQ_good (opQ_good op) (l := b :: r) (by simp) (fun x hx => h x (by simp [hx]))).1
    rw [e, ih, e2, join_app (h a (by simp)).1 (by simp), join_app (by simp) hb, Lib.join_one]
    have hs : sepW op = [32] ++ opQ op ++ [32] := by unfold sepW opQ; split <;> rfl
    rw [hs]
    simp
theorem word_good (op : Int) : ∀ c ∈ wordW op, c ≠ 32 := by unfold wordW; split <;> (try split) <;> decide
theorem name_good {nm : ByteArray} (h : nameD nm = true) : ∀ c ∈ nm.data.toList, c ≠ 32 := by
  unfold nameD lettersD at h
  rw [Bool.and_eq_true] at h
  intro x hx
  have := List.all_eq_true.1 h.1 x hx
  unfold letD at this
  rw [decide_eq_true_eq] at this
  rintro rfl
  have e : (32 : UInt8).toNat = 32 := rfl
  omega
mutual
theorem words_S : ∀ (x : Sc) (n d m : Nat), mayS x n d = some m → textS x = Lib.join (wdsS x) [32] ∧ GoodW (wdsS x)
  | .mk op nm fr to_ ks, n, d, m, h => by
    obtain ⟨hn, hd, ho, hnm, hft, hk, hl⟩ := mayS_parts h
    have ih := fun q => words_L q ks _ _ _ hl
    rw [textS, wdsS]
    by_cases h1 : op = 1
    · rw [if_pos h1, if_pos h1]
      exact ⟨by rw [Lib.join_one], by simp, by simp⟩
    · rw [if_neg h1, if_neg h1]
      by_cases h2 : op = 2 ∨ op = 3 ∨ op = 4
      · rw [if_pos h2, if_pos h2]
        rw [if_pos h2] at hnm
        refine ⟨?_, by simp, fun a ha => ?_⟩
        · rw [show [wordW op, nm.data.toList] = [wordW op] ++ [nm.data.toList] by rfl, join_app (by simp) (by simp), Lib.join_one, Lib.join_one]
        · simp only [List.mem_cons, List.not_mem_nil, or_false] at ha
          rcases ha with rfl | rfl
          · exact word_good op
          · exact name_good hnm
      · rw [if_neg h2, if_neg h2]
        by_cases h5 : op = 5
        · rw [if_pos h5, if_pos h5]
          rw [if_pos h5] at hft
          refine ⟨?_, by simp, fun a ha => ?_⟩
          · rw [show [[116, 105, 109, 101], Lib.itoa fr ++ [45] ++ Lib.itoa to_] = [[116, 105, 109, 101]] ++ [Lib.itoa fr ++ [45] ++ Lib.itoa to_] by rfl, join_app (by simp) (by simp), Lib.join_one, Lib.join_one]
            simp
          · simp only [List.mem_cons, List.not_mem_nil, or_false] at ha
            rcases ha with rfl | rfl
            · decide
            · intro c hc e
              subst e
              simp only [List.mem_append, List.mem_singleton] at hc
              rcases hc with (hc | hc) | hc
              · exact absurd (itoa_digits hft.1 _ hc).1 (by decide)
              · exact absurd hc (by decide)
              · exact absurd (itoa_digits (n := to_) (by omega) _ hc).1 (by decide)
        · rw [if_neg h5, if_neg h5]
          have hlen := textL_len op ks
          by_cases h8 : op = 8
          · rw [if_pos h8, if_pos h8]
            have i8 := ih 8
            subst h8
            match ks, hk, i8 with
            | [k], _, i8 =>
              obtain ⟨i1, i2⟩ := i8
              rw [textL_cons, textL_nil, wdsL_cons, wdsL_nil] at i1
              rw [wdsL_cons, wdsL_nil] at i2
              rw [textL_cons, textL_nil, wdsL_cons, wdsL_nil]
              have g := i2 _ (List.mem_singleton.2 rfl)
              simp only [List.map_cons, List.map_nil, List.cons.injEq, and_true] at i1
              simp only [List.headD_cons]
              refine ⟨?_, by simp, fun a ha => ?_⟩
              · rw [i1, show [110, 111, 116] :: parQ 8 k (wdsS k) = [[110, 111, 116]] ++ parQ 8 k (wdsS k) by rfl, join_app (by simp) g.1, Lib.join_one]
                simp
              · rw [List.mem_cons] at ha
                rcases ha with rfl | ha
                · decide
                · exact g.2 a ha
          · rw [if_neg h8, if_neg h8]
            obtain ⟨i1, i2⟩ := ih op
            have hne : wdsL op ks ≠ [] := by
              intro e
              rw [e] at i1
              rw [i1] at hlen
              unfold kidsW at hk
              rw [if_pos (by omega), decide_eq_true_eq] at hk
              simp at hlen
              omega
            exact ⟨by rw [i1]; exact joinQ_text op hne i2, joinQ_good (opQ_good op) hne i2⟩
theorem words_L : ∀ (op : Int) (ks : List Sc) (n d m : Nat), mayL ks n d = some m → textL op ks = (wdsL op ks).map (fun ws => Lib.join ws [32]) ∧ ∀ a ∈ wdsL op ks, GoodW a
  | op, [], n, d, m, h => by rw [textL_nil, wdsL_nil]; exact ⟨rfl, by simp⟩
  | op, k :: ks, n, d, m, h => by
    rw [mayL_cons] at h
    cases hk : mayS k n d with
    | none => rw [hk] at h; cases h
    | some q =>
      rw [hk] at h
      obtain ⟨h1, h2⟩ := words_S k n d q hk
      obtain ⟨h3, h4⟩ := words_L op ks q d m h
      rw [textL_cons, wdsL_cons, List.map_cons, h3, h1, parQ_text h2]
      refine ⟨rfl, fun a ha => ?_⟩
      rw [List.mem_cons] at ha
      rcases ha with rfl | ha
      · exact parQ_good h2
      · exact h4 a ha
end
theorem spl_text {x : Sc} {n d m : Nat} (h : mayS x n d = some m) : splW (textS x) = wdsS x := by
  obtain ⟨h1, h2⟩ := words_S x n d m h
  rw [h1]
  exact splW_join _ h2.1 h2.2
end Go.Proofs.YtppnlijeonneeaaDoor

namespace Go.Proofs.YtppnlijeonneeaaDoor
open Go Go.RowKit

def bs (ws : List (List UInt8)) : List ByteArray := ws.map wa
theorem bs_app (a b : List (List UInt8)) : bs (a ++ b) = bs a ++ bs b := by simp [bs]
theorem bs_cons (a : List UInt8) (b : List (List UInt8)) : bs (a :: b) = wa a :: bs b := rfl
/-- The next word is not that one. -/
def NotW (m : ByteArray) (r : List ByteArray) : Prop := ∀ a q, r = a :: q → a ≠ m
theorem notW_cons {m a : ByteArray} {q : List ByteArray} (h : a ≠ m) : NotW m (a :: q) := fun b p e => by injection e with e1 e2; rw [← e1]; exact h
theorem notW_nil (m : ByteArray) : NotW m [] := fun _ _ e => by cases e
theorem ahead_no {m : ByteArray} {r : List ByteArray} (h : NotW m r) : aheadW m ⟨r, false⟩ = false := by
  unfold aheadW
  cases r with
  | nil => rfl
  | cons a q => exact decide_eq_false (h a q rfl)
theorem ahead_yes (m : ByteArray) (r : List ByteArray) : aheadW m ⟨m :: r, false⟩ = true := by
  unfold aheadW
  exact decide_eq_true rfl
theorem takeW_cons (a : ByteArray) (r : List ByteArray) : takeW ⟨a :: r, false⟩ = (a, ⟨r, false⟩) := rfl
theorem sev_end {one : Wst → Sc × Wst} {m : ByteArray} {ks : List Sc} {r : List ByteArray} (h : NotW m r) (N : Nat) : sevW one m N ks ⟨r, false⟩ = (ks, ⟨r, false⟩) := by
  cases N with
  | zero => rfl
  | succ N => rw [sevW, if_neg (by rw [ahead_no h]; simp)]
theorem many_one {one : Wst → Sc × Wst} {op : Int} {m : ByteArray} {s : Wst} {k : Sc} {r : List ByteArray} (h : one s = (k, ⟨r, false⟩)) (hr : NotW m r) : manyW one op m s = (k, ⟨r, false⟩) := by
  unfold manyW
  rw [h, sev_end hr]
  rfl
section
variable {one : Wst → Sc × Wst} {m : ByteArray} {W : Sc → List ByteArray} {Q : List ByteArray → Prop} {r : List ByteArray}
theorem sev_list (hQm : ∀ q, Q (m :: q)) (hr : Q r) (hn : NotW m r) : ∀ (ks acc : List Sc) (N : Nat), ks.length ≤ N → (∀ k ∈ ks, ∀ q, Q q → one ⟨W k ++ q, false⟩ = (k, ⟨q, false⟩)) →
    sevW one m N acc ⟨((ks.map W).map (m :: ·)).flatten ++ r, false⟩ = (acc ++ ks, ⟨r, false⟩)
  | [], acc, N, _, _ => by simp only [List.map_nil, List.flatten_nil, List.nil_append, List.append_nil]; exact sev_end hn N
  | k :: ks, acc, N, hN, h => by
    obtain ⟨N', rfl⟩ : ∃ N', N = N' + 1 := ⟨N - 1, by simp at hN; omega⟩
    have e : (((k :: ks).map W).map (m :: ·)).flatten ++ r = m :: (W k ++ (((ks.map W).map (m :: ·)).flatten ++ r)) := by simp
    have hq : Q (((ks.map W).map (m :: ·)).flatten ++ r) := by
      cases ks with
      | nil => exact hr
      | cons a b => simp only [List.map_cons, List.flatten_cons, List.cons_append]; exact hQm _
    rw [e, sevW, if_pos (ahead_yes _ _), takeW_cons]
    dsimp only
    rw [h k (by simp) _ hq]
    dsimp only
    rw [sev_list hQm hr hn ks _ N' (by simp at hN; omega) (fun x hx => h x (by simp [hx]))]
    simp
theorem flat_len (m : ByteArray) : ∀ l : List (List ByteArray), l.length ≤ ((l.map (m :: ·)).flatten).length
  | [] => Nat.le_refl _
  | a :: l => by
    have := flat_len m l
    simp only [List.map_cons, List.flatten_cons, List.length_append, List.length_cons]
    omega
theorem many_list (hQm : ∀ q, Q (m :: q)) (hr : Q r) (hn : NotW m r) {op : Int} (k0 k1 : Sc) (ks : List Sc) (h : ∀ k ∈ k0 :: k1 :: ks, ∀ q, Q q → one ⟨W k ++ q, false⟩ = (k, ⟨q, false⟩)) :
    manyW one op m ⟨W k0 ++ ((((k1 :: ks).map W).map (m :: ·)).flatten ++ r), false⟩ = (.mk op ⟨#[]⟩ 0 0 (k0 :: k1 :: ks), ⟨r, false⟩) := by
  have hq : Q ((((k1 :: ks).map W).map (m :: ·)).flatten ++ r) := by
    simp only [List.map_cons, List.flatten_cons, List.cons_append]; exact hQm _
  unfold manyW
  rw [h k0 (by simp) _ hq]
  dsimp only
  rw [sev_list hQm hr hn (k1 :: ks) [k0] _ ?_ (fun x hx => h x (by simp [hx]))]
  · rfl
  · have := flat_len m ((k1 :: ks).map W)
    simp only [List.length_map] at this
    simp only [List.length_append]
    omega
end
theorem paren_read {D : Nat} {x : Sc} {ws : List (List UInt8)} (h : ∀ r, NotW bAnd r → NotW bOr r → wholeW D ⟨bs ws ++ r, false⟩ = (x, ⟨r, false⟩)) (r : List ByteArray) :
    factW (D + 1) ⟨bs ([40] :: (ws ++ [[41]])) ++ r, false⟩ = (x, ⟨r, false⟩) := by
  have e : bs ([40] :: (ws ++ [[41]])) ++ r = bOpen :: (bs ws ++ (bShut :: r)) := by
    rw [bs_cons, bs_app]
    simp [bs, wa]
  have h1 := h (bShut :: r) (notW_cons (by decide)) (notW_cons (by decide))
  unfold wholeW termW at h1
  rw [e, factW, takeW_cons]
  dsimp only
  rw [if_neg (by decide), if_pos rfl, h1]
  dsimp only
  rw [takeW_cons]
  dsimp only
  rw [if_pos rfl]
/-- How a scope's words are read, so deep. -/
def RdW (x : Sc) (d : Nat) : Prop := ∀ D, d ≤ D →
  (∀ op, op ≠ 7 → ∀ r, factW D ⟨bs (parQ op x (wdsS x)) ++ r, false⟩ = (x, ⟨r, false⟩)) ∧
  (∀ r, NotW bAnd r → termW D ⟨bs (parQ 7 x (wdsS x)) ++ r, false⟩ = (x, ⟨r, false⟩)) ∧
  (∀ r, NotW bAnd r → NotW bOr r → wholeW D ⟨bs (wdsS x) ++ r, false⟩ = (x, ⟨r, false⟩))
theorem parQ_leaf {op : Int} {x : Sc} {ws : List (List UInt8)} (h6 : scOp x ≠ 6) (h7 : scOp x ≠ 7) : parQ op x ws = ws := by unfold parQ; rw [if_neg]; rintro (h | h); exact h7 h; exact h6 h.1
theorem RdW.leaf {x : Sc} {d : Nat} (h6 : scOp x ≠ 6) (h7 : scOp x ≠ 7) (h : ∀ D, d ≤ D → ∀ r, factW D ⟨bs (wdsS x) ++ r, false⟩ = (x, ⟨r, false⟩)) : RdW x d := by
  intro D hD
  refine ⟨fun op _ r => ?_, fun r hr => ?_, fun r hr hr2 => ?_⟩
  · rw [parQ_leaf h6 h7]; exact h D hD r
  · rw [parQ_leaf h6 h7]; exact many_one (h D hD r) hr
  · exact many_one (many_one (h D hD r) hr) hr2
theorem nil_of_size {s : ByteArray} (h : s.size = 0) : s = ⟨#[]⟩ := by
  obtain ⟨⟨l⟩⟩ := s
  have : l = [] := List.eq_nil_of_length_eq_zero h
  subst this
  rfl
theorem words_list {op : Int} {k0 k1 : Sc} {ks : List Sc} (r : List ByteArray) : bs (joinQ (opQ op) (wdsL op (k0 :: k1 :: ks))) ++ r = bs (parQ op k0 (wdsS k0)) ++ ((((k1 :: ks).map fun k => bs (parQ op k (wdsS k))).map (wa (opQ op) :: ·)).flatten ++ r) := by
  have hm : ∀ l : List Sc, wdsL op l = l.map fun k => parQ op k (wdsS k) := by
    intro l
    induction l with
    | nil => rw [wdsL_nil]; rfl
    | cons a l ih => rw [wdsL_cons, ih]; rfl
  have hf : ∀ l : List (List (List UInt8)), bs ((l.map (opQ op :: ·)).flatten) = ((l.map bs).map (wa (opQ op) :: ·)).flatten := by
    intro l
    induction l with
    | nil => rfl
    | cons a l ih => simp only [List.map_cons, List.flatten_cons]; rw [bs_app, ih]; rfl
  rw [hm, List.map_cons, joinQ, bs_app, hf, List.append_assoc]
  simp only [List.map_map]
  rfl
mutual
theorem read_S : ∀ (x : Sc) (n d m : Nat), mayS x n d = some m → RdW x d
  | .mk op nm fr to_ ks, n, d, m, h => by
    obtain ⟨hn, hd, ho, hnm, hft, hk, hl⟩ := mayS_parts h
    have ih := read_L ks _ _ _ hl
    by_cases h1 : op = 1
    · subst h1
      rw [if_neg (by omega)] at hnm hft
      obtain rfl := nil_of_size hnm
      obtain ⟨rfl, rfl⟩ := hft
      obtain rfl : ks = [] := by
        unfold kidsW at hk
        rw [if_neg (by omega), if_neg (by omega), decide_eq_true_eq] at hk
        exact List.eq_nil_of_length_eq_zero hk
      refine RdW.leaf (by show (1 : Int) ≠ 6; omega) (by show (1 : Int) ≠ 7; omega) fun D hD r => ?_
      obtain ⟨D', rfl⟩ : ∃ D', D = D' + 1 := ⟨D - 1, by omega⟩
      rw [wdsS, if_pos rfl]
      have e : bs [[97, 108, 108]] ++ r = bAll :: r := rfl
      rw [e, factW, takeW_cons]
      dsimp only
      rw [if_neg (by decide), if_neg (by decide), if_pos rfl]
    · by_cases h2 : op = 2 ∨ op = 3 ∨ op = 4
      · rw [if_pos h2] at hnm
        rw [if_neg (by omega)] at hft
        obtain ⟨rfl, rfl⟩ := hft
        obtain rfl : ks = [] := by
          unfold kidsW at hk
          rw [if_neg (by omega), if_neg (by omega), decide_eq_true_eq] at hk
          exact List.eq_nil_of_length_eq_zero hk
        refine RdW.leaf (by show op ≠ 6; omega) (by show op ≠ 7; omega) fun D hD r => ?_
        obtain ⟨D', rfl⟩ : ∃ D', D = D' + 1 := ⟨D - 1, by omega⟩
        rw [wdsS, if_neg h1, if_pos h2]
        have e : bs [wordW op, nm.data.toList] ++ r = wa (wordW op) :: nm :: r := by rw [bs_cons, bs_cons, data_wa]; rfl
        rw [e, factW, takeW_cons]
        dsimp only
        rcases h2 with rfl | rfl | rfl
        · rw [if_neg (by decide), if_neg (by decide), if_neg (by decide), if_neg (by decide), namedW, takeW_cons]
          dsimp only
          rw [if_pos ⟨by decide, hnm⟩]
          rfl
        · rw [if_neg (by decide), if_neg (by decide), if_neg (by decide), if_neg (by decide), namedW, takeW_cons]
          dsimp only
          rw [if_pos ⟨by decide, hnm⟩]
          rfl
        · rw [if_neg (by decide), if_neg (by decide), if_neg (by decide), if_neg (by decide), namedW, takeW_cons]
          dsimp only
          rw [if_pos ⟨by decide, hnm⟩]
          rfl
      · rw [if_neg h2] at hnm
        obtain rfl := nil_of_size hnm
        by_cases h5 : op = 5
        · subst h5
          rw [if_pos rfl] at hft
          obtain rfl : ks = [] := by
            unfold kidsW at hk
            rw [if_neg (by omega), if_neg (by omega), decide_eq_true_eq] at hk
            exact List.eq_nil_of_length_eq_zero hk
          refine RdW.leaf (by show (5 : Int) ≠ 6; omega) (by show (5 : Int) ≠ 7; omega) fun D hD r => ?_
          obtain ⟨D', rfl⟩ : ∃ D', D = D' + 1 := ⟨D - 1, by omega⟩
          rw [wdsS, if_neg h1, if_neg h2, if_pos rfl]
          have e : bs [[116, 105, 109, 101], Lib.itoa fr ++ [45] ++ Lib.itoa to_] ++ r = bTime :: wa (Lib.itoa fr ++ [45] ++ Lib.itoa to_) :: r := rfl
          rw [e, factW, takeW_cons]
          dsimp only
          rw [if_neg (by decide), if_neg (by decide), if_neg (by decide), if_pos rfl, timeW, takeW_cons]
          dsimp only
          rw [wa_data, spanW_text hft.1 hft.2.1 hft.2.2]
        · rw [if_neg h5] at hft
          obtain ⟨rfl, rfl⟩ := hft
          by_cases h8 : op = 8
          · subst h8
            obtain ⟨k, rfl⟩ : ∃ k, ks = [k] := by
              unfold kidsW at hk
              rw [if_neg (by omega), if_pos rfl, decide_eq_true_eq] at hk
              exact List.length_eq_one_iff.1 hk
            refine RdW.leaf (by show (8 : Int) ≠ 6; omega) (by show (8 : Int) ≠ 7; omega) fun D hD r => ?_
            obtain ⟨D', rfl⟩ : ∃ D', D = D' + 1 := ⟨D - 1, by omega⟩
            have hkF := (ih k (by simp) D' (by omega)).1 8 (by omega) r
            rw [wdsS, if_neg h1, if_neg h2, if_neg h5, if_pos rfl, wdsL_cons, List.headD_cons]
            have e : bs ([110, 111, 116] :: parQ 8 k (wdsS k)) ++ r = bNot :: (bs (parQ 8 k (wdsS k)) ++ r) := rfl
            rw [e, factW, takeW_cons]
            dsimp only
            rw [if_pos rfl, hkF]
          · obtain ⟨k0, k1, kr, rfl⟩ : ∃ k0 k1 kr, ks = k0 :: k1 :: kr := by
              unfold kidsW at hk
              rw [if_pos (by omega), decide_eq_true_eq] at hk
              match ks, hk with
              | a :: b :: r, _ => exact ⟨a, b, r, rfl⟩
            by_cases h6 : op = 6
            · subst h6
              have hT : ∀ D, d - 1 ≤ D → ∀ r, NotW bAnd r → termW D ⟨bs (wdsS (.mk 6 ⟨#[]⟩ 0 0 (k0 :: k1 :: kr))) ++ r, false⟩ = (.mk 6 ⟨#[]⟩ 0 0 (k0 :: k1 :: kr), ⟨r, false⟩) := by
                intro D hD r hr
                rw [wdsS, if_neg h1, if_neg h2, if_neg h5, if_neg h8, words_list]
                exact many_list (Q := fun _ => True) (W := fun k => bs (parQ 6 k (wdsS k))) (fun _ => trivial) trivial hr k0 k1 kr (fun k hk q _ => (ih k hk D hD).1 6 (by omega) q)
              have hC : ∀ D, d - 1 ≤ D → ∀ r, NotW bAnd r → NotW bOr r → wholeW D ⟨bs (wdsS (.mk 6 ⟨#[]⟩ 0 0 (k0 :: k1 :: kr))) ++ r, false⟩ = (.mk 6 ⟨#[]⟩ 0 0 (k0 :: k1 :: kr), ⟨r, false⟩) := fun D hD r hr hr2 => many_one (hT D hD r hr) hr2
              intro D hD
              refine ⟨fun op hop r => ?_, fun r hr => ?_, fun r hr hr2 => hC D (by omega) r hr hr2⟩
              · obtain ⟨D', rfl⟩ : ∃ D', D = D' + 1 := ⟨D - 1, by omega⟩
                have e : ∀ ws, parQ op (.mk 6 ⟨#[]⟩ 0 0 (k0 :: k1 :: kr)) ws = [40] :: (ws ++ [[41]]) := fun ws => by unfold parQ; rw [if_pos (.inr ⟨rfl, hop⟩)]
                rw [e]
                exact paren_read (hC D' (by omega)) r
              · have e : ∀ ws, parQ 7 (.mk 6 ⟨#[]⟩ 0 0 (k0 :: k1 :: kr)) ws = ws := fun ws => by
                  unfold parQ
                  rw [if_neg]
                  rintro (h | h)
                  · exact absurd h (by show ¬ (6 : Int) = 7; omega)
                  · exact h.2 rfl
                rw [e]
                exact hT D (by omega) r hr
            · obtain rfl : op = 7 := by omega
              have hC : ∀ D, d - 1 ≤ D → ∀ r, NotW bAnd r → NotW bOr r → wholeW D ⟨bs (wdsS (.mk 7 ⟨#[]⟩ 0 0 (k0 :: k1 :: kr))) ++ r, false⟩ = (.mk 7 ⟨#[]⟩ 0 0 (k0 :: k1 :: kr), ⟨r, false⟩) := by
                intro D hD r hr hr2
                rw [wdsS, if_neg h1, if_neg h2, if_neg h5, if_neg h8, words_list]
                exact many_list (Q := NotW bAnd) (W := fun k => bs (parQ 7 k (wdsS k))) (fun _ => notW_cons (by decide)) hr hr2 k0 k1 kr (fun k hk q hq => (ih k hk D hD).2.1 q hq)
              have e : ∀ op ws, parQ op (.mk 7 ⟨#[]⟩ 0 0 (k0 :: k1 :: kr)) ws = [40] :: (ws ++ [[41]]) := fun op ws => by unfold parQ; rw [if_pos (.inl rfl)]
              have hF : ∀ D, d ≤ D → ∀ op r, factW D ⟨bs (parQ op (.mk 7 ⟨#[]⟩ 0 0 (k0 :: k1 :: kr)) (wdsS (.mk 7 ⟨#[]⟩ 0 0 (k0 :: k1 :: kr)))) ++ r, false⟩ = (.mk 7 ⟨#[]⟩ 0 0 (k0 :: k1 :: kr), ⟨r, false⟩) := by
                intro D hD op r
                obtain ⟨D', rfl⟩ : ∃ D', D = D' + 1 := ⟨D - 1, by omega⟩
                rw [e]
                exact paren_read (hC D' (by omega)) r
              intro D hD
              exact ⟨fun op _ r => hF D hD op r, fun r hr => many_one (hF D hD 7 r) hr, fun r hr hr2 => hC D (by omega) r hr hr2⟩
theorem read_L : ∀ (ks : List Sc) (n d m : Nat), mayL ks n d = some m → ∀ k ∈ ks, RdW k d
  | [], n, d, m, h => fun k hk => by cases hk
  | k :: ks, n, d, m, h => by
    rw [mayL_cons] at h
    cases hk : mayS k n d with
    | none => rw [hk] at h; cases h
    | some q =>
      rw [hk] at h
      have h1 := read_S k n d q hk
      have h2 := read_L ks q d m h
      intro x hx
      rw [List.mem_cons] at hx
      rcases hx with rfl | hx
      · exact h1
      · exact h2 x hx
end
/-- What is written is read. -/
theorem parse_text {x : Sc} (h : (mayS x 24 8).isSome = true) : parseW (textS x) = (x, 0) := by
  obtain ⟨m, hm⟩ := Option.isSome_iff_exists.1 h
  have hl := textS_len x 24 8 m hm
  have hr := (read_S x 24 8 m hm 41 (by omega)).2.2 [] (notW_nil _) (notW_nil _)
  rw [List.append_nil] at hr
  unfold parseW
  rw [if_neg (by omega), spl_text hm]
  change (if (wholeW 41 ⟨bs (wdsS x), false⟩).2.fail = true ∨ (wholeW 41 ⟨bs (wdsS x), false⟩).2.l ≠ [] then (scN, 2) else if (mayS (wholeW 41 ⟨bs (wdsS x), false⟩).1 24 8).isSome = true then ((wholeW 41 ⟨bs (wdsS x), false⟩).1, 0) else (scN, 1)) = (x, 0)
  rw [hr]
  dsimp only
  rw [if_neg (by simp), if_pos h]
/-- What is read may be. -/
theorem parse_may {l : List UInt8} {x : Sc} (h : parseW l = (x, 0)) : (mayS x 24 8).isSome = true := by
  unfold parseW at h
  split at h
  · injection h with h1 h2; exact absurd h2 (by decide)
  · split at h
    · injection h with h1 h2; exact absurd h2 (by decide)
    · split at h
      · rename_i hm
        injection h with h1 h2
        rw [← h1]
        exact hm
      · injection h with h1 h2; exact absurd h2 (by decide)
end Go.Proofs.YtppnlijeonneeaaDoor

namespace Go.Proofs.YtppnlijeonneeaaDoor
open Go Go.RowKit

mutual
/-- Is no name long? -/
def nmOk : Sc → Bool
  | .mk _ nm _ _ ks => decide (nm.size ≤ 2000) && nmOkL ks
def nmOkL : List Sc → Bool
  | [] => true
  | k :: ks => nmOk k && nmOkL ks
end
theorem nmOk_mk {op fr to_ : Int} {nm : ByteArray} {ks : List Sc} : nmOk (.mk op nm fr to_ ks) = true ↔ nm.size ≤ 2000 ∧ nmOkL ks = true := by rw [nmOk, Bool.and_eq_true, decide_eq_true_eq]
theorem nmOkL_cons {k : Sc} {ks : List Sc} : nmOkL (k :: ks) = true ↔ nmOk k = true ∧ nmOkL ks = true := by rw [nmOkL, Bool.and_eq_true]
theorem nmOkL_nil : nmOkL [] = true := by rw [nmOkL]
theorem nmOkL_all : ∀ {ks : List Sc}, nmOkL ks = true ↔ ∀ k ∈ ks, nmOk k = true
  | [] => by simp [nmOkL_nil]
  | k :: ks => by rw [nmOkL_cons, nmOkL_all]; simp
mutual
/-- How many parts more there may be behind a scope of few parts. -/
def smallS : Sc → Nat → Nat → Option Nat
  | .mk _ nm _ _ ks, n, d => if n = 0 ∨ d = 0 ∨ n < ks.length ∨ 100 < nm.size then none else smallL ks (n - 1) (d - 1)
def smallL : List Sc → Nat → Nat → Option Nat
  | [], n, _ => some n
  | k :: ks, n, d => match smallS k n d with
    | none => none
    | some m => smallL ks m d
end
theorem smallL_cons {k : Sc} {ks : List Sc} {n d : Nat} : smallL (k :: ks) n d = match smallS k n d with | none => none | some m => smallL ks m d := by rw [smallL]
theorem smallL_nil {n d : Nat} : smallL [] n d = some n := by rw [smallL]
mutual
theorem smallS_ok : ∀ (x : Sc) (n d m : Nat), smallS x n d = some m → m < n ∧ nmOk x = true
  | .mk op nm fr to_ ks, n, d, m, h => by
    rw [smallS] at h
    split at h
    · cases h
    · have := smallL_ok ks _ _ _ h
      exact ⟨by omega, nmOk_mk.2 ⟨by omega, this.2⟩⟩
theorem smallL_ok : ∀ (xs : List Sc) (n d m : Nat), smallL xs n d = some m → m ≤ n ∧ nmOkL xs = true
  | [], n, d, m, h => by rw [smallL_nil] at h; cases h; exact ⟨Nat.le_refl _, nmOkL_nil⟩
  | k :: ks, n, d, m, h => by
    rw [smallL_cons] at h
    cases hk : smallS k n d with
    | none => rw [hk] at h; cases h
    | some q =>
      rw [hk] at h
      have h1 := smallS_ok k n d q hk
      have h2 := smallL_ok ks q d m h
      exact ⟨by omega, nmOkL_cons.2 ⟨h1.2, h2.2⟩⟩
end
theorem scN_nm : nmOk scN = true := nmOk_mk.2 ⟨Nat.zero_le _, nmOkL_nil⟩
theorem alone_nm {op : Int} {ks : List Sc} (h : nmOkL ks = true) : nmOk (aloneS op ks) = true := by
  unfold aloneS
  split
  · exact (nmOkL_cons.1 h).1
  · exact nmOk_mk.2 ⟨Nat.zero_le _, h⟩
theorem sev_nm {one : Wst → Sc × Wst} (h1 : ∀ s, nmOk (one s).1 = true) (m : ByteArray) : ∀ (n : Nat) (ks : List Sc) (s : Wst), nmOkL ks = true → nmOkL (sevW one m n ks s).1 = true
  | 0, _, _, h => h
  | n + 1, ks, s, h => by
    rw [sevW]
    split
    · refine sev_nm h1 m n _ _ (nmOkL_all.2 fun k hk => ?_)
      rw [List.mem_append, List.mem_singleton] at hk
      rcases hk with hk | rfl
      · exact nmOkL_all.1 h k hk
      · exact h1 _
    · exact h
theorem many_nm {one : Wst → Sc × Wst} (h1 : ∀ s, nmOk (one s).1 = true) (op : Int) (m : ByteArray) (s : Wst) : nmOk (manyW one op m s).1 = true :=
  alone_nm (sev_nm h1 m _ _ _ (nmOkL_cons.2 ⟨h1 s, nmOkL_nil⟩))
theorem time_nm (s : Wst) : nmOk (timeW s).1 = true := by
  unfold timeW
  split
  · exact nmOk_mk.2 ⟨Nat.zero_le _, nmOkL_nil⟩
  · exact scN_nm
theorem named_nm (w : ByteArray) (s : Wst) : nmOk (namedW w s).1 = true := by
  unfold namedW
  split
  · rename_i h
    have h2 := h.2
    unfold nameD at h2
    simp only [Bool.and_eq_true, decide_eq_true_eq] at h2
    exact nmOk_mk.2 ⟨by omega, nmOkL_nil⟩
  · exact scN_nm
theorem fact_nm : ∀ (d : Nat) (s : Wst), nmOk (factW d s).1 = true
  | 0, _ => scN_nm
  | d + 1, s => by
    rw [factW]
    split
    · exact nmOk_mk.2 ⟨Nat.zero_le _, nmOkL_cons.2 ⟨fact_nm d _, nmOkL_nil⟩⟩
    · split
      · exact many_nm (many_nm (fact_nm d) 6 bAnd) 7 bOr _
      · split
        · exact nmOk_mk.2 ⟨Nat.zero_le _, nmOkL_nil⟩
        · split
          · exact time_nm _
          · exact named_nm _ _
theorem whole_nm (d : Nat) (s : Wst) : nmOk (wholeW d s).1 = true := many_nm (many_nm (fact_nm d) 6 bAnd) 7 bOr s

/-! What each makes of the words that are left: they are a part of what was there, and an error stays. -/
structure GoesW (s t : Wst) : Prop where
  len : t.l.length ≤ s.l.length
  mem : ∀ a ∈ t.l, a ∈ s.l
  fail : s.fail = true → t.fail = true
theorem GoesW.refl (s : Wst) : GoesW s s := ⟨Nat.le_refl _, fun _ h => h, id⟩
theorem GoesW.trans {s t u : Wst} (h : GoesW s t) (k : GoesW t u) : GoesW s u := ⟨Nat.le_trans k.len h.len, fun a ha => h.mem a (k.mem a ha), fun e => k.fail (h.fail e)⟩
theorem GoesW.ok {s t : Wst} (h : GoesW s t) (ht : t.fail = false) : s.fail = false := by
  cases e : s.fail with
  | false => rfl
  | true => rw [h.fail e] at ht; cases ht
theorem failW_goes (s : Wst) : GoesW s (failW s) := ⟨Nat.le_refl _, fun _ h => h, fun _ => rfl⟩
theorem takeW_goes (s : Wst) : GoesW s (takeW s).2 := by
  obtain ⟨l, f⟩ := s
  unfold takeW
  split
  · exact GoesW.refl _
  · rename_i hf
    cases l with
    | nil => exact ⟨Nat.le_refl _, fun _ h => h, fun _ => rfl⟩
    | cons a r => exact ⟨by simp, fun b hb => by simp [hb], fun h => absurd h hf⟩
theorem sev_goes {one : Wst → Sc × Wst} (h1 : ∀ s, GoesW s (one s).2) (m : ByteArray) : ∀ (n : Nat) (ks : List Sc) (s : Wst), GoesW s (sevW one m n ks s).2
  | 0, _, s => GoesW.refl s
  | n + 1, ks, s => by
    rw [sevW]
    split
    · exact ((takeW_goes s).trans (h1 _)).trans (sev_goes h1 m n _ _)
    · exact GoesW.refl s
theorem many_goes {one : Wst → Sc × Wst} (h1 : ∀ s, GoesW s (one s).2) (op : Int) (m : ByteArray) (s : Wst) : GoesW s (manyW one op m s).2 := (h1 s).trans (sev_goes h1 m _ _ _)
theorem time_goes (s : Wst) : GoesW s (timeW s).2 := by
  unfold timeW
  split
  · exact takeW_goes s
  · exact (takeW_goes s).trans (failW_goes _)
theorem named_goes (w : ByteArray) (s : Wst) : GoesW s (namedW w s).2 := by
  unfold namedW
  split
  · exact takeW_goes s
  · exact (takeW_goes s).trans (failW_goes _)
theorem fact_goes : ∀ (d : Nat) (s : Wst), GoesW s (factW d s).2
  | 0, s => failW_goes s
  | d + 1, s => by
    have ht := takeW_goes s
    rw [factW]
    split
    · exact ht.trans (fact_goes d _)
    · split
      · have h2 := ht.trans (many_goes (many_goes (fact_goes d) 6 bAnd) 7 bOr _)
        dsimp only
        split
        · exact h2.trans (takeW_goes _)
        · exact (h2.trans (takeW_goes _)).trans (failW_goes _)
      · split
        · exact ht
        · split
          · exact ht.trans (time_goes _)
          · exact ht.trans (named_goes _ _)
theorem term_goes (d : Nat) (s : Wst) : GoesW s (termW d s).2 := many_goes (fact_goes d) 6 bAnd s
theorem whole_goes (d : Nat) (s : Wst) : GoesW s (wholeW d s).2 := many_goes (term_goes d) 7 bOr s
end Go.Proofs.YtppnlijeonneeaaDoor

namespace Go.Proofs.YtppnlijeonneeaaDoor
open Go Go.RowKit

def optW : Option Nat → Int
  | none => -1
  | some m => (m : Int)
theorem optW_none : optW none = -1 := rfl
theorem optW_some (m : Nat) : optW (some m) = (m : Int) := rfl
theorem wr_nil {s : ByteArray} (h : s.size ≠ 0) : ¬ s.toList = [] ∧ (s.toList == []) = false ∧ s.toList.isEmpty = false := by
  have h1 : ¬ s.toList = [] := by
    rw [ByteArray.toList_eq]
    intro e
    apply h
    have := congrArg List.length e
    simpa using this
  refine ⟨h1, by rw [beq_eq_false_iff_ne]; exact h1, by rw [List.isEmpty_eq_false_iff]; exact h1⟩
/-- The ways of a node; r is what it comes to. -/
inductive WayW (op : Int) (nm : ByteArray) (fr to_ : Int) (len : Nat) : Prop
  | op (h : op < 1 ∨ 8 < op)
  | noname (h : op = 2 ∨ op = 3 ∨ op = 4) (h2 : nm = ⟨#[]⟩)
  | badname (h : op = 2 ∨ op = 3 ∨ op = 4) (h2 : nm.size ≠ 0) (h3 : nameD nm = false)
  | named (h : op = 1 ∨ op = 5 ∨ op = 6 ∨ op = 7 ∨ op = 8) (h2 : nm.size ≠ 0)
  | time (h : op = 5) (h2 : nm = ⟨#[]⟩) (h3 : fr < 0 ∨ (0 ≤ fr ∧ to_ < fr) ∨ (0 ≤ fr ∧ fr ≤ to_ ∧ 1099511627776 < to_))
  | span1 (h : op = 2 ∨ op = 3 ∨ op = 4) (h2 : nm.size ≠ 0) (h3 : nameD nm = true) (h4 : fr ≠ 0 ∨ (fr = 0 ∧ to_ ≠ 0))
  | span2 (h : op = 1 ∨ op = 6 ∨ op = 7 ∨ op = 8) (h2 : nm = ⟨#[]⟩) (h4 : fr ≠ 0 ∨ (fr = 0 ∧ to_ ≠ 0))
  | kids1 (h : op = 2 ∨ op = 3 ∨ op = 4) (h2 : nm.size ≠ 0) (h3 : nameD nm = true) (h4 : fr = 0) (h5 : to_ = 0) (h6 : len ≠ 0)
  | kids2 (h : op = 5) (h2 : nm = ⟨#[]⟩) (h4 : 0 ≤ fr) (h5 : fr ≤ to_) (h7 : to_ ≤ 1099511627776) (h6 : len ≠ 0)
  | kids3 (h : op = 1) (h2 : nm = ⟨#[]⟩) (h4 : fr = 0) (h5 : to_ = 0) (h6 : len ≠ 0)
  | kids4 (h : op = 6 ∨ op = 7) (h2 : nm = ⟨#[]⟩) (h4 : fr = 0) (h5 : to_ = 0) (h6 : len < 2)
  | kids5 (h : op = 8) (h2 : nm = ⟨#[]⟩) (h4 : fr = 0) (h5 : to_ = 0) (h6 : len ≠ 1)
/-- What may be, of a node alone. -/
inductive YesW (op : Int) (nm : ByteArray) (fr to_ : Int) (len : Nat) : Prop
  | name (h : op = 2 ∨ op = 3 ∨ op = 4) (h2 : nm.size ≠ 0) (h3 : nameD nm = true) (h4 : fr = 0) (h5 : to_ = 0) (h6 : len = 0)
  | time (h : op = 5) (h2 : nm = ⟨#[]⟩) (h4 : 0 ≤ fr) (h5 : fr ≤ to_) (h7 : to_ ≤ 1099511627776) (h6 : len = 0)
  | all (h : op = 1) (h2 : nm = ⟨#[]⟩) (h4 : fr = 0) (h5 : to_ = 0) (h6 : len = 0)
  | list (h : op = 6 ∨ op = 7) (h2 : nm = ⟨#[]⟩) (h4 : fr = 0) (h5 : to_ = 0) (h6 : 2 ≤ len)
  | neg (h : op = 8) (h2 : nm = ⟨#[]⟩) (h4 : fr = 0) (h5 : to_ = 0) (h6 : len = 1)
theorem way_no {op fr to_ : Int} {nm : ByteArray} {ks : List Sc} {n d : Nat} (h0 : ¬ (n = 0 ∨ d = 0)) :
    (WayW op nm fr to_ ks.length ∧ mayS (.mk op nm fr to_ ks) n d = none) ∨ (YesW op nm fr to_ ks.length ∧ mayS (.mk op nm fr to_ ks) n d = mayL ks (n - 1) (d - 1)) := by
  have hs0 : nameD nm = true → nm.size ≠ 0 := fun h => by
    unfold nameD at h
    simp only [Bool.and_eq_true, decide_eq_true_eq] at h
    omega
  rw [mayS_1 h0]
  unfold fieldsW kidsW
  by_cases ho : 1 ≤ op ∧ op ≤ 8
  case neg => left; exact ⟨.op (by omega), by rw [if_neg]; simp; omega⟩
  by_cases h2 : op = 2 ∨ op = 3 ∨ op = 4
  · rw [if_pos h2, if_neg (show ¬ op = 5 by omega), if_neg (show ¬ (op = 6 ∨ op = 7) by omega), if_neg (show ¬ op = 8 by omega)]
    by_cases hn : nm.size = 0
    · have hf : nameD nm = false := by
        cases e : nameD nm with
        | false => rfl
        | true => exact absurd hn (hs0 e)
      left; exact ⟨.noname h2 (nil_of_size hn), by rw [if_neg]; simp [hf]⟩
    · cases hf : nameD nm with
      | false => left; exact ⟨.badname h2 hn hf, by rw [if_neg]; simp⟩
      | true =>
        by_cases hz : fr = 0 ∧ to_ = 0
        · by_cases hk : ks.length = 0
          · right; exact ⟨.name h2 hn hf hz.1 hz.2 hk, by rw [if_pos]; simp [ho, hz, hk]⟩
          · left; exact ⟨.kids1 h2 hn hf hz.1 hz.2 hk, by rw [if_neg]; simp only [Bool.and_eq_true, decide_eq_true_eq]; omega⟩
        · left; exact ⟨.span1 h2 hn hf (by omega), by rw [if_neg]; simp only [Bool.and_eq_true, decide_eq_true_eq]; omega⟩
  · rw [if_neg h2]
    by_cases hn : nm.size = 0
    case neg => left; exact ⟨.named (by omega) hn, by rw [if_neg]; simp only [Bool.and_eq_true, decide_eq_true_eq]; omega⟩
    have hnm := nil_of_size hn
    by_cases h5 : op = 5
    · rw [if_pos h5, if_neg (show ¬ (op = 6 ∨ op = 7) by omega), if_neg (show ¬ op = 8 by omega)]
      by_cases hz : 0 ≤ fr ∧ fr ≤ to_ ∧ to_ ≤ 1099511627776
      · by_cases hk : ks.length = 0
        · right; exact ⟨.time h5 hnm hz.1 hz.2.1 hz.2.2 hk, by rw [if_pos]; simp [ho, hz, hk, hn]⟩
        · left; exact ⟨.kids2 h5 hnm hz.1 hz.2.1 hz.2.2 hk, by rw [if_neg]; simp only [Bool.and_eq_true, decide_eq_true_eq]; omega⟩
      · left; exact ⟨.time h5 hnm (by omega), by rw [if_neg]; simp only [Bool.and_eq_true, decide_eq_true_eq]; omega⟩
    · rw [if_neg h5]
      by_cases hz : fr = 0 ∧ to_ = 0
      case neg => left; exact ⟨.span2 (by omega) hnm (by omega), by rw [if_neg]; simp only [Bool.and_eq_true, decide_eq_true_eq]; omega⟩
      by_cases h6 : op = 6 ∨ op = 7
      · rw [if_pos h6]
        by_cases hk : 2 ≤ ks.length
        · right; exact ⟨.list h6 hnm hz.1 hz.2 hk, by rw [if_pos]; simp [ho, hz, hk, hn]⟩
        · left; exact ⟨.kids4 h6 hnm hz.1 hz.2 (by omega), by rw [if_neg]; simp only [Bool.and_eq_true, decide_eq_true_eq]; omega⟩
      · rw [if_neg h6]
        by_cases h8 : op = 8
        · rw [if_pos h8]
          by_cases hk : ks.length = 1
          · right; exact ⟨.neg h8 hnm hz.1 hz.2 hk, by rw [if_pos]; simp [ho, hz, hk, hn]⟩
          · left; exact ⟨.kids5 h8 hnm hz.1 hz.2 hk, by rw [if_neg]; simp only [Bool.and_eq_true, decide_eq_true_eq]; omega⟩
        · rw [if_neg h8]
          have h1 : op = 1 := by omega
          by_cases hk : ks.length = 0
          · right; exact ⟨.all h1 hnm hz.1 hz.2 hk, by rw [if_pos]; simp [ho, hz, hk, hn]⟩
          · left; exact ⟨.kids3 h1 hnm hz.1 hz.2 hk, by rw [if_neg]; simp only [Bool.and_eq_true, decide_eq_true_eq]; omega⟩
/-- A count, k kids on. -/
structure CntF (fx : Sc → Nat → Nat → Option Nat) (fl : List Sc → Nat → Nat → Option Nat) : Prop where
  nil : ∀ n d, fl [] n d = some n
  cons : ∀ k ks n d, fl (k :: ks) n d = match fx k n d with | none => none | some m => fl ks m d
theorem may_cnt : CntF mayS mayL := ⟨fun _ _ => mayL_nil, fun _ _ _ _ => mayL_cons⟩
theorem small_cnt : CntF smallS smallL := ⟨fun _ _ => smallL_nil, fun _ _ _ _ => smallL_cons⟩
def CntTo (fl : List Sc → Nat → Nat → Option Nat) (ks : List Sc) (n d k : Nat) (st : Option Nat) : Prop := fl ks n d = st.bind fun m => fl (ks.drop k) m d
theorem CntTo.step {fx : Sc → Nat → Nat → Option Nat} {fl : List Sc → Nat → Nat → Option Nat} (hF : CntF fx fl) {ks : List Sc} {n d k m : Nat} {x : Sc} (h : CntTo fl ks n d k (some m)) (hx : ks[k]? = some x) : CntTo fl ks n d (k + 1) (fx x m d) := by
  unfold CntTo at *
  obtain ⟨hlt, hx2⟩ := List.getElem?_eq_some_iff.1 hx
  rw [h, List.drop_eq_getElem_cons hlt, hx2]
  show fl (x :: ks.drop (k + 1)) m d = _
  rw [hF.cons]
  cases fx x m d <;> rfl
theorem CntTo.end_ {fx : Sc → Nat → Nat → Option Nat} {fl : List Sc → Nat → Nat → Option Nat} (hF : CntF fx fl) {ks : List Sc} {n d : Nat} {st : Option Nat} (h : CntTo fl ks n d ks.length st) : fl ks n d = st := by
  unfold CntTo at h
  rw [h, List.drop_length]
  cases st with
  | none => rfl
  | some m => show fl [] m d = _; rw [hF.nil]
theorem CntTo.none {fl : List Sc → Nat → Nat → Option Nat} {ks : List Sc} {n d k : Nat} (h : CntTo fl ks n d k none) : fl ks n d = none := h
end Go.Proofs.YtppnlijeonneeaaDoor

namespace Go.Proofs.YtppnlijeonneeaaDoor
open Go Go.RowKit

theorem joinW_snoc (sep t : List UInt8) : ∀ l : List (List UInt8), l ≠ [] → Lib.join (l ++ [t]) sep = Lib.join l sep ++ (sep ++ t)
  | [], h => absurd rfl h
  | [a], _ => by simp [Lib.join, List.intercalate]
  | a :: b :: r, _ => by
    have ih := joinW_snoc sep t (b :: r) (by simp)
    have e : ∀ l : List (List UInt8), l ≠ [] → Lib.join (a :: l) sep = a ++ (sep ++ Lib.join l sep) := by
      intro l hl
      cases l with
      | nil => exact absurd rfl hl
      | cons x y => simp [Lib.join, List.intercalate]
    rw [List.cons_append, e _ (by simp), ih, e _ (by simp)]
    simp
theorem textL_at (op : Int) : ∀ (ks : List Sc) (k : Nat) (x : Sc), ks[k]? = some x → (textL op ks)[k]? = some (parW op x (textS x))
  | [], _, _, h => by simp at h
  | y :: ys, 0, x, h => by
    simp only [List.getElem?_cons_zero, Option.some.injEq] at h
    subst h
    rw [textL_cons]; rfl
  | y :: ys, k + 1, x, h => by
    simp only [List.getElem?_cons_succ] at h
    rw [textL_cons, List.getElem?_cons_succ]
    exact textL_at op ys k x h
theorem textL_take {op : Int} {ks : List Sc} {k : Nat} {x : Sc} (h : ks[k]? = some x) : (textL op ks).take (k + 1) = (textL op ks).take k ++ [parW op x (textS x)] := by
  obtain ⟨hl, e⟩ := List.getElem?_eq_some_iff.1 (textL_at op ks k x h)
  rw [List.take_succ_eq_append_getElem hl, e]
/-- The text of the first kids. -/
def joinTo (op : Int) (ks : List Sc) (k : Nat) : List UInt8 := Lib.join ((textL op ks).take k) (sepW op)
theorem joinTo_0 (op : Int) (ks : List Sc) : joinTo op ks 0 = [] := rfl
theorem joinTo_1 {op : Int} {ks : List Sc} {x : Sc} (h : ks[0]? = some x) : joinTo op ks 1 = parW op x (textS x) := by
  unfold joinTo
  rw [textL_take h, List.take_zero, List.nil_append, Lib.join_one]
theorem joinTo_s {op : Int} {ks : List Sc} {k : Nat} {x : Sc} (h : ks[k]? = some x) (h0 : 0 < k) : joinTo op ks (k + 1) = joinTo op ks k ++ (sepW op ++ parW op x (textS x)) := by
  unfold joinTo
  have hk := (List.getElem?_eq_some_iff.1 h).1
  rw [textL_take h, joinW_snoc]
  intro e
  have := congrArg List.length e
  rw [List.length_take, textL_len, List.length_nil] at this
  omega
theorem joinTo_all (op : Int) (ks : List Sc) : joinTo op ks ks.length = Lib.join (textL op ks) (sepW op) := by
  unfold joinTo
  rw [List.take_of_length_le (by rw [textL_len]; exact Nat.le_refl _)]
theorem sumW_take : ∀ (l : List (List UInt8)) (k : Nat), sumW (l.take k) ≤ sumW l
  | [], k => by rw [List.take_nil]; exact Nat.le_refl _
  | a :: r, 0 => by rw [List.take_zero, sumW]; exact Nat.zero_le _
  | a :: r, k + 1 => by
    have := sumW_take r k
    rw [List.take_succ_cons, sumW, sumW]
    omega
theorem joinTo_len {op : Int} {ks : List Sc} {n d m : Nat} (h : mayL ks n d = some m) (hn : n ≤ 24) (k : Nat) : (joinTo op ks k).length ≤ 1000 := by
  unfold joinTo
  have h1 := textL_sum op ks n d m h
  have h2 := sumW_take (textL op ks) k
  by_cases e : (textL op ks).take k = []
  · rw [e, Lib.join_nil]; exact Nat.zero_le _
  · have := join_sum op _ e
    omega
theorem mayL_kid : ∀ (ks : List Sc) (n d m k : Nat) (x : Sc), mayL ks n d = some m → ks[k]? = some x → ∃ n' m', n' ≤ n ∧ mayS x n' d = some m'
  | [], _, _, _, _, _, _, h => by simp at h
  | y :: ys, n, d, m, k, x, h, hx => by
    rw [mayL_cons] at h
    cases e : mayS y n d with
    | none => rw [e] at h; cases h
    | some q =>
      rw [e] at h
      cases k with
      | zero =>
        simp only [List.getElem?_cons_zero, Option.some.injEq] at hx
        subst hx
        exact ⟨n, q, Nat.le_refl _, e⟩
      | succ k =>
        simp only [List.getElem?_cons_succ] at hx
        obtain ⟨n', m', h1, h2⟩ := mayL_kid ys q d m k x h hx
        have := mayS_lt y n d q e
        exact ⟨n', m', by omega, h2⟩
theorem textS_1000 {x : Sc} {n d m : Nat} (h : mayS x n d = some m) (hn : n ≤ 24) : (textS x).length ≤ 1000 := by
  have := textS_len x n d m h
  omega
theorem textS_8 {nm : ByteArray} {fr to_ : Int} {k : Sc} : textS (.mk 8 nm fr to_ [k]) = [110, 111, 116, 32] ++ parW 8 k (textS k) := by
  rw [textS, if_neg (by omega), if_neg (by omega), if_neg (by omega), if_pos rfl, textL_cons, textL_nil]
  rfl
theorem textS_list {op : Int} {nm : ByteArray} {fr to_ : Int} {ks : List Sc} (h : op = 6 ∨ op = 7) : textS (.mk op nm fr to_ ks) = joinTo op ks ks.length := by
  rw [textS, if_neg (by omega), if_neg (by omega), if_neg (by omega), if_neg (by omega), joinTo_all]
end Go.Proofs.YtppnlijeonneeaaDoor
