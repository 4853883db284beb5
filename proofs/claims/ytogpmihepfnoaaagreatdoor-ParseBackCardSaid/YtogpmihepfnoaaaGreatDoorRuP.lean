/- Conditions and rules: plain laws, and how they lie in memory. -/
import Derived.Test.YtogpmihepfnoaaaGreatDoorTree
import Derived.Test.YtogpmihepfnoaaaGreatDoorLexP
import Derived.Test.YtogpmihepfnoaaaGreatDoorSpanB
import Derived.Lib.Join
namespace Go.Proofs.YtogpmihepfnoaaaGreatDoor
open Go Go.RowKit

/-- A condition. -/
inductive Ex where
  | mk (op days : Int) (mile : ByteArray) (kids : List Ex)
abbrev Ex.op : Ex → Int | .mk o _ _ _ => o
abbrev Ex.kids : Ex → List Ex | .mk _ _ _ k => k
def Ex.none_ : Ex := .mk 0 0 ⟨#[]⟩ []
/-- A rule. -/
structure Ru where
  cls : ByteArray
  wh : Ex
  act : Int
mutual
/-- A condition in memory. -/
def RdEx (w : World) (K : Nat → Prop) : Ex → Value → Prop
  | .mk op days mile ks, v => ∃ A c vs, v = .agg #[.int .i64 op, .int .i64 days, .string mile, .slice A ks.length c] ∧ (ks.length ≤ c ∧ c ≤ maxLen ∧ mile.size ≤ 140737488351232) ∧ Rk w K 4 A ks.length vs ∧ RdExL w K ks vs
def RdExL (w : World) (K : Nat → Prop) : List Ex → List Value → Prop
  | [], vs => vs = []
  | k :: ks, vs => ∃ v0 v1 v2 v3 r, vs = v0 :: v1 :: v2 :: v3 :: r ∧ RdEx w K k (.agg #[v0, v1, v2, v3]) ∧ RdExL w K ks r
end
mutual
theorem RdEx.keep {w w' : World} {K : Nat → Prop} (hk : ∀ p : Addr, K p.block → w'.cell? p = w.cell? p) : ∀ (x : Ex) (v : Value), RdEx w K x v → RdEx w' K x v
  | .mk op days mile ks, v, h => by
    rw [RdEx] at h ⊢
    obtain ⟨A, c, vs, e, hc, hr, hl⟩ := h
    exact ⟨A, c, vs, e, hc, hr.keep hk, RdExL.keep hk ks vs hl⟩
theorem RdExL.keep {w w' : World} {K : Nat → Prop} (hk : ∀ p : Addr, K p.block → w'.cell? p = w.cell? p) : ∀ (xs : List Ex) (vs : List Value), RdExL w K xs vs → RdExL w' K xs vs
  | [], vs, h => by rw [RdExL] at h ⊢; exact h
  | k :: ks, vs, h => by
    rw [RdExL] at h ⊢
    obtain ⟨v0, v1, v2, v3, r, e, hx, hl⟩ := h
    exact ⟨v0, v1, v2, v3, r, e, RdEx.keep hk k _ hx, RdExL.keep hk ks r hl⟩
end
mutual
theorem RdEx.mono {w : World} {K K' : Nat → Prop} (hk : ∀ b, K b → K' b) : ∀ (x : Ex) (v : Value), RdEx w K x v → RdEx w K' x v
  | .mk op days mile ks, v, h => by
    rw [RdEx] at h ⊢
    obtain ⟨A, c, vs, e, hc, hr, hl⟩ := h
    exact ⟨A, c, vs, e, hc, hr.mono hk, RdExL.mono hk ks vs hl⟩
theorem RdExL.mono {w : World} {K K' : Nat → Prop} (hk : ∀ b, K b → K' b) : ∀ (xs : List Ex) (vs : List Value), RdExL w K xs vs → RdExL w K' xs vs
  | [], vs, h => by rw [RdExL] at h ⊢; exact h
  | k :: ks, vs, h => by
    rw [RdExL] at h ⊢
    obtain ⟨v0, v1, v2, v3, r, e, hx, hl⟩ := h
    exact ⟨v0, v1, v2, v3, r, e, RdEx.mono hk k _ hx, RdExL.mono hk ks r hl⟩
end
theorem RdExL.at_ {w : World} {K : Nat → Prop} : ∀ (xs : List Ex) (vs : List Value) (k : Nat) (x : Ex), RdExL w K xs vs → xs[k]? = some x →
    ∃ v0 v1 v2 v3, vs[k * 4]? = some v0 ∧ vs[k * 4 + 1]? = some v1 ∧ vs[k * 4 + 2]? = some v2 ∧ vs[k * 4 + 3]? = some v3 ∧ RdEx w K x (.agg #[v0, v1, v2, v3])
  | [], vs, k, x, h, hx => by simp at hx
  | y :: ys, vs, 0, x, h, hx => by
    rw [RdExL] at h
    obtain ⟨v0, v1, v2, v3, r, rfl, hy, hl⟩ := h
    simp only [List.getElem?_cons_zero, Option.some.injEq] at hx
    subst hx
    exact ⟨v0, v1, v2, v3, rfl, rfl, rfl, rfl, hy⟩
  | y :: ys, vs, k + 1, x, h, hx => by
    rw [RdExL] at h
    obtain ⟨v0, v1, v2, v3, r, rfl, hy, hl⟩ := h
    simp only [List.getElem?_cons_succ] at hx
    obtain ⟨u0, u1, u2, u3, h0, h1, h2, h3, hs⟩ := RdExL.at_ ys r k x hl hx
    refine ⟨u0, u1, u2, u3, ?_, ?_, ?_, ?_, hs⟩
    all_goals rw [show (k + 1) * 4 = k * 4 + 4 by omega]
    · exact h0
    · exact h1
    · exact h2
    · exact h3
theorem RdEx.form {w : World} {K : Nat → Prop} {op days : Int} {mile : ByteArray} {ks : List Ex} {v : Value} (h : RdEx w K (.mk op days mile ks) v) :
    ∃ A c vs, v = .agg #[.int .i64 op, .int .i64 days, .string mile, .slice A ks.length c] ∧ (ks.length ≤ c ∧ c ≤ maxLen ∧ mile.size ≤ 140737488351232) ∧ Rk w K 4 A ks.length vs ∧ RdExL w K ks vs := by
  rw [RdEx] at h
  exact h
theorem RdEx.gr {w w' : World} {x : Ex} {v : Value} (h : RdEx w (· < w.heap.size) x v) (hg : Gr w w') : RdEx w' (· < w'.heap.size) x v :=
  RdEx.mono (fun _ hb => Nat.lt_of_lt_of_le hb hg.size) x v (RdEx.keep (fun _ hp => hg.cell hp) x v h)
theorem RdExL.gr {w w' : World} {xs : List Ex} {vs : List Value} (h : RdExL w (· < w.heap.size) xs vs) (hg : Gr w w') : RdExL w' (· < w'.heap.size) xs vs :=
  RdExL.mono (fun _ hb => Nat.lt_of_lt_of_le hb hg.size) xs vs (RdExL.keep (fun _ hp => hg.cell hp) xs vs h)
theorem Rk.gr {w w' : World} {size n : Nat} {A : Option Addr} {xs : List Value} (h : Rk w (· < w.heap.size) size A n xs) (hg : Gr w w') : Rk w' (· < w'.heap.size) size A n xs :=
  (h.keep fun _ hp => hg.cell hp).mono fun _ hb => Nat.lt_of_lt_of_le hb hg.size
theorem add_fl (ad : Addr) (m j : Nat) (hj : 0 < j) : ad.add (m + j) = ⟨(ad.add m).block, (ad.add m).off + j, none⟩ := by
  rw [← add_of_add]
  generalize ad.add m = P
  unfold Addr.add
  rw [if_neg (by omega)]
/-- A part of a condition. -/
theorem ex_cells {w : World} {K : Nat → Prop} {A : Option Addr} {n : Nat} {vs : List Value} {ks : List Ex} (hr : Rk w K 4 A n vs) (hl : RdExL w K ks vs) (hn : n = ks.length) (k : Nat) (x : Ex) (hx : ks[k]? = some x) :
    ∃ ad P v0 v1 v2 v3, A = some ad ∧ ad.add (k * 4) = P ∧ K P.block ∧ w.cell? P = some v0 ∧ w.cell? ⟨P.block, P.off + 1, none⟩ = some v1 ∧ w.cell? ⟨P.block, P.off + 2, none⟩ = some v2 ∧ w.cell? ⟨P.block, P.off + 3, none⟩ = some v3 ∧
      RdEx w K x (.agg #[v0, v1, v2, v3]) := by
  have hk : k < ks.length := (List.getElem?_eq_some_iff.1 hx).1
  obtain ⟨ad, ea, hb, hc⟩ := hr.2 (by omega)
  obtain ⟨v0, v1, v2, v3, h0, h1, h2, h3, hs⟩ := RdExL.at_ ks vs k x hl hx
  refine ⟨ad, ad.add (k * 4), v0, v1, v2, v3, ea, rfl, by rw [block_of_add]; exact hb, hc _ _ h0, ?_, ?_, ?_, hs⟩
  · rw [← add_fl ad (k * 4) 1 (by omega)]; exact hc _ _ h1
  · rw [← add_fl ad (k * 4) 2 (by omega)]; exact hc _ _ h2
  · rw [← add_fl ad (k * 4) 3 (by omega)]; exact hc _ _ h3
/-- Rules in memory. -/
def RdRuL (w : World) (K : Nat → Prop) : List Ru → List Value → Prop
  | [], vs => vs = []
  | r :: rs, vs => ∃ v0 v1 v2 v3 t, vs = .string r.cls :: v0 :: v1 :: v2 :: v3 :: .int .i64 r.act :: t ∧ r.cls.size ≤ 140737488351232 ∧ RdEx w K r.wh (.agg #[v0, v1, v2, v3]) ∧ RdRuL w K rs t
theorem RdRuL.keep {w w' : World} {K : Nat → Prop} (hk : ∀ p : Addr, K p.block → w'.cell? p = w.cell? p) : ∀ (xs : List Ru) (vs : List Value), RdRuL w K xs vs → RdRuL w' K xs vs
  | [], vs, h => h
  | r :: rs, vs, h => by
    obtain ⟨v0, v1, v2, v3, t, e, hs, hx, hl⟩ := h
    exact ⟨v0, v1, v2, v3, t, e, hs, RdEx.keep hk _ _ hx, RdRuL.keep hk rs t hl⟩
theorem RdRuL.mono {w : World} {K K' : Nat → Prop} (hk : ∀ b, K b → K' b) : ∀ (xs : List Ru) (vs : List Value), RdRuL w K xs vs → RdRuL w K' xs vs
  | [], vs, h => h
  | r :: rs, vs, h => by
    obtain ⟨v0, v1, v2, v3, t, e, hs, hx, hl⟩ := h
    exact ⟨v0, v1, v2, v3, t, e, hs, RdEx.mono hk _ _ hx, RdRuL.mono hk rs t hl⟩
theorem RdRuL.at_ {w : World} {K : Nat → Prop} : ∀ (xs : List Ru) (vs : List Value) (k : Nat) (x : Ru), RdRuL w K xs vs → xs[k]? = some x →
    ∃ v0 v1 v2 v3, vs[k * 6]? = some (.string x.cls) ∧ vs[k * 6 + 1]? = some v0 ∧ vs[k * 6 + 2]? = some v1 ∧ vs[k * 6 + 3]? = some v2 ∧ vs[k * 6 + 4]? = some v3 ∧ vs[k * 6 + 5]? = some (.int .i64 x.act) ∧ x.cls.size ≤ 140737488351232 ∧ RdEx w K x.wh (.agg #[v0, v1, v2, v3])
  | [], vs, k, x, h, hx => by simp at hx
  | y :: ys, vs, 0, x, h, hx => by
    obtain ⟨v0, v1, v2, v3, r, rfl, hs, hy, hl⟩ := h
    simp only [List.getElem?_cons_zero, Option.some.injEq] at hx
    subst hx
    exact ⟨v0, v1, v2, v3, rfl, rfl, rfl, rfl, rfl, rfl, hs, hy⟩
  | y :: ys, vs, k + 1, x, h, hx => by
    obtain ⟨v0, v1, v2, v3, r, rfl, hs, hy, hl⟩ := h
    simp only [List.getElem?_cons_succ] at hx
    obtain ⟨u0, u1, u2, u3, h0, h1, h2, h3, h4, h5, h6⟩ := RdRuL.at_ ys r k x hl hx
    refine ⟨u0, u1, u2, u3, ?_, ?_, ?_, ?_, ?_, ?_, h6⟩
    all_goals rw [show (k + 1) * 6 = k * 6 + 6 by omega]
    · exact h0
    · exact h1
    · exact h2
    · exact h3
    · exact h4
    · exact h5
/-- A slice of rules. -/
def RdRus (w : World) (K : Nat → Prop) (v : Value) (rs : List Ru) : Prop := ∃ A c vs, v = .slice A rs.length c ∧ (rs.length ≤ c ∧ c ≤ maxLen) ∧ Rk w K 6 A rs.length vs ∧ RdRuL w K rs vs
theorem RdRus.keep {w w' : World} {K : Nat → Prop} {v : Value} {rs : List Ru} (h : RdRus w K v rs) (hk : ∀ p : Addr, K p.block → w'.cell? p = w.cell? p) : RdRus w' K v rs := by
  obtain ⟨A, c, vs, e, hc, hr, hl⟩ := h
  exact ⟨A, c, vs, e, hc, hr.keep hk, hl.keep hk⟩
theorem RdRus.mono {w : World} {K K' : Nat → Prop} {v : Value} {rs : List Ru} (h : RdRus w K v rs) (hk : ∀ b, K b → K' b) : RdRus w K' v rs := by
  obtain ⟨A, c, vs, e, hc, hr, hl⟩ := h
  exact ⟨A, c, vs, e, hc, hr.mono hk, hl.mono hk⟩
theorem RdRus.gr {w w' : World} {v : Value} {rs : List Ru} (h : RdRus w (· < w.heap.size) v rs) (hg : Gr w w') : RdRus w' (· < w'.heap.size) v rs :=
  (h.keep fun _ hp => hg.cell hp).mono fun _ hb => Nat.lt_of_lt_of_le hb hg.size
theorem RdRus.form {w : World} {K : Nat → Prop} {v : Value} {rs : List Ru} (h : RdRus w K v rs) : ∃ A c, v = .slice A rs.length c ∧ rs.length ≤ c ∧ c ≤ maxLen := by
  obtain ⟨A, c, vs, e, hc, _⟩ := h
  exact ⟨A, c, e, hc⟩
theorem RdRus.nil (w : World) (K : Nat → Prop) : RdRus w K (.slice none 0 0) [] := ⟨none, 0, [], rfl, ⟨Nat.le_refl _, Nat.zero_le _⟩, Rk.nil w K 6 none, rfl⟩
/-- A rule's cells. -/
theorem RdRus.at_ {w : World} {K : Nat → Prop} {A : Option Addr} {n c : Nat} {rs : List Ru} (h : RdRus w K (.slice A n c) rs) (k : Nat) (x : Ru) (hk : rs[k]? = some x) :
    ∃ ad P v0 v1 v2 v3, A = some ad ∧ ad.add (k * 6) = P ∧ K P.block ∧ w.cell? P = some (.string x.cls) ∧ w.cell? ⟨P.block, P.off + 1, none⟩ = some v0 ∧ w.cell? ⟨P.block, P.off + 2, none⟩ = some v1 ∧ w.cell? ⟨P.block, P.off + 3, none⟩ = some v2 ∧ w.cell? ⟨P.block, P.off + 4, none⟩ = some v3 ∧ w.cell? ⟨P.block, P.off + 5, none⟩ = some (.int .i64 x.act) ∧
      x.cls.size ≤ 140737488351232 ∧ RdEx w K x.wh (.agg #[v0, v1, v2, v3]) := by
  obtain ⟨A', c', vs, e, hc, hr, hl⟩ := h
  injection e with e1 e2 e3
  subst e1 e2 e3
  have hk2 : k < rs.length := (List.getElem?_eq_some_iff.1 hk).1
  obtain ⟨ad, ea, hb, hcs⟩ := hr.2 (by omega)
  obtain ⟨v0, v1, v2, v3, h0, h1, h2, h3, h4, h5, h6, h7⟩ := RdRuL.at_ rs vs k x hl hk
  refine ⟨ad, ad.add (k * 6), v0, v1, v2, v3, ea, rfl, by rw [block_of_add]; exact hb, hcs _ _ h0, ?_, ?_, ?_, ?_, ?_, h6, h7⟩
  · rw [← add_fl ad (k * 6) 1 (by omega)]; exact hcs _ _ h1
  · rw [← add_fl ad (k * 6) 2 (by omega)]; exact hcs _ _ h2
  · rw [← add_fl ad (k * 6) 3 (by omega)]; exact hcs _ _ h3
  · rw [← add_fl ad (k * 6) 4 (by omega)]; exact hcs _ _ h4
  · rw [← add_fl ad (k * 6) 5 (by omega)]; exact hcs _ _ h5
mutual
def exEq : Ex → Ex → Bool
  | .mk o d m ks, .mk o' d' m' ks' => decide (o = o') && decide (d = d') && decide (m = m') && exEqL ks ks'
def exEqL : List Ex → List Ex → Bool
  | [], [] => true
  | k :: ks, l :: ls => exEq k l && exEqL ks ls
  | [], _ :: _ => false
  | _ :: _, [] => false
end
mutual
theorem exEq_refl : ∀ x : Ex, exEq x x = true
  | .mk o d m ks => by rw [exEq, exEqL_refl ks]; simp
theorem exEqL_refl : ∀ xs : List Ex, exEqL xs xs = true
  | [] => by rw [exEqL]
  | k :: ks => by rw [exEqL, exEq_refl k, exEqL_refl ks]; rfl
end
mutual
theorem exEq_eq : ∀ (x y : Ex), exEq x y = true → x = y
  | .mk o d m ks, .mk o' d' m' ks', h => by
    rw [exEq] at h
    simp only [Bool.and_eq_true, decide_eq_true_eq] at h
    obtain ⟨⟨⟨rfl, rfl⟩, rfl⟩, hk⟩ := h
    rw [exEqL_eq ks ks' hk]
theorem exEqL_eq : ∀ (xs ys : List Ex), exEqL xs ys = true → xs = ys
  | [], [], _ => rfl
  | k :: ks, l :: ls, h => by
    rw [exEqL, Bool.and_eq_true] at h
    rw [exEq_eq k l h.1, exEqL_eq ks ls h.2]
  | [], _ :: _, h => by rw [exEqL] at h; cases h
  | _ :: _, [], h => by rw [exEqL] at h; cases h
end
theorem exEqL_len {xs ys : List Ex} (h : exEqL xs ys = true) : xs.length = ys.length := by rw [exEqL_eq xs ys h]
/-- Are rules the same? -/
def ruEq : List Ru → List Ru → Bool
  | [], [] => true
  | k :: ks, l :: ls => decide (k.cls = l.cls) && decide (k.act = l.act) && exEq k.wh l.wh && ruEq ks ls
  | [], _ :: _ => false
  | _ :: _, [] => false
theorem ruEq_refl : ∀ xs : List Ru, ruEq xs xs = true
  | [] => rfl
  | k :: ks => by rw [ruEq, exEq_refl, ruEq_refl ks]; simp
theorem ruEq_eq : ∀ (xs ys : List Ru), ruEq xs ys = true → xs = ys
  | [], [], _ => rfl
  | ⟨c, w, a⟩ :: ks, ⟨c', w', a'⟩ :: ls, h => by
    rw [ruEq] at h
    simp only [Bool.and_eq_true, decide_eq_true_eq] at h
    obtain ⟨⟨⟨rfl, rfl⟩, hw⟩, hk⟩ := h
    rw [exEq_eq _ _ hw, ruEq_eq ks ls hk]
  | [], _ :: _, h => by cases h
  | _ :: _, [], h => by cases h
/-- Words that mean something else. -/
def keptL : List ByteArray := [⟨#[99, 108, 97, 115, 115]⟩, ⟨#[100, 101, 102, 97, 117, 108, 116]⟩, ⟨#[107, 101, 101, 112]⟩, ⟨#[97, 102, 116, 101, 114]⟩, ⟨#[111, 114]⟩, ⟨#[97, 110, 100]⟩, ⟨#[116, 104, 101, 110]⟩, ⟨#[100, 101, 115, 116, 114, 111, 121]⟩, ⟨#[114, 101, 118, 105, 101, 119]⟩]
def keptD (s : ByteArray) : Bool := keptL.any fun x => decide (s = x)
/-- May a text be a milestone's name? -/
def mileD (s : ByteArray) : Bool := decide (1 ≤ s.size ∧ s.size ≤ 16) && lowB (s.data.toList.getD 0 0) && !keptD s && s.data.toList.all wordB
mutual
/-- How many nodes there may be behind a condition that may be. -/
def mayX : Ex → Nat → Nat → Option Nat
  | .mk op days mile ks, n, d =>
    if n = 0 ∨ d = 0 then none else
    if op = 1 then (if 0 ≤ days ∧ days ≤ 1048576 ∧ mileD mile = true ∧ ks.length = 0 then some (n - 1) else none) else
    if (op = 2 ∨ op = 3) ∧ days = 0 ∧ mile.size = 0 ∧ 2 ≤ ks.length then mayXL ks (n - 1) (d - 1) else none
def mayXL : List Ex → Nat → Nat → Option Nat
  | [], n, _ => some n
  | k :: ks, n, d => match mayX k n d with
    | none => none
    | some m => mayXL ks m d
end
theorem mayXL_cons {k : Ex} {ks : List Ex} {n d : Nat} : mayXL (k :: ks) n d = match mayX k n d with | none => none | some m => mayXL ks m d := by rw [mayXL]
theorem mayXL_nil {n d : Nat} : mayXL [] n d = some n := by rw [mayXL]
mutual
theorem mayX_lt : ∀ (x : Ex) (n d m : Nat), mayX x n d = some m → m < n
  | .mk op days mile ks, n, d, m, h => by
    rw [mayX] at h
    split at h
    · cases h
    · rename_i h0
      split at h
      · split at h
        · cases h; omega
        · cases h
      · split at h
        · have := mayXL_le ks _ _ _ h
          omega
        · cases h
theorem mayXL_le : ∀ (xs : List Ex) (n d m : Nat), mayXL xs n d = some m → m + xs.length ≤ n
  | [], n, d, m, h => by rw [mayXL_nil] at h; cases h; exact Nat.le_refl _
  | k :: ks, n, d, m, h => by
    rw [mayXL_cons] at h
    cases hk : mayX k n d with
    | none => rw [hk] at h; cases h
    | some q =>
      rw [hk] at h
      have h1 := mayX_lt k n d q hk
      have h2 := mayXL_le ks q d m h
      rw [List.length_cons]; omega
end
def wrapB (op : Int) (k : Ex) : Bool := decide (k.op = 2) || decide (k.op = op)
def sepL (op : Int) : List UInt8 := if op = 3 then [32, 97, 110, 100, 32] else [32, 111, 114, 32]
mutual
/-- A condition as a text. -/
def exprL : Ex → List UInt8
  | .mk op days mile ks => if op = 1 then textD days ++ [32, 97, 102, 116, 101, 114, 32] ++ mile.data.toList else Lib.join (partsL op ks) (sepL op)
def partsL (op : Int) : List Ex → List (List UInt8)
  | [] => []
  | k :: ks => (if wrapB op k then 40 :: (exprL k ++ [41]) else exprL k) :: partsL op ks
end
def partL (op : Int) (k : Ex) : List UInt8 := if wrapB op k then 40 :: (exprL k ++ [41]) else exprL k
theorem partsL_map (op : Int) : ∀ ks : List Ex, partsL op ks = ks.map (partL op)
  | [] => by rw [partsL]; rfl
  | k :: ks => by rw [partsL, partsL_map op ks]; rfl
theorem partsL_len (op : Int) (ks : List Ex) : (partsL op ks).length = ks.length := by rw [partsL_map, List.length_map]
theorem partsL_at (op : Int) : ∀ (ks : List Ex) (k : Nat) (x : Ex), ks[k]? = some x → (partsL op ks)[k]? = some (if wrapB op x then 40 :: (exprL x ++ [41]) else exprL x) := by
  intro ks k x h
  rw [partsL_map, List.getElem?_map, h]; rfl
def sumL (l : List (List UInt8)) : Nat := (l.map List.length).sum
theorem sumL_cons (a : List UInt8) (l : List (List UInt8)) : sumL (a :: l) = a.length + sumL l := by simp [sumL]
theorem join_len (sep : List UInt8) : ∀ l : List (List UInt8), l ≠ [] → (Lib.join l sep).length + sep.length = sumL l + l.length * sep.length
  | [], h => absurd rfl h
  | [a], _ => by rw [Lib.join_one]; simp [sumL]
  | a :: b :: r, _ => by
    have ih := join_len sep (b :: r) (by simp)
    have e : Lib.join (a :: b :: r) sep = a ++ (sep ++ Lib.join (b :: r) sep) := by simp [Lib.join, List.intercalate]
    rw [e, sumL_cons, List.length_append, List.length_append, show (a :: b :: r).length = (b :: r).length + 1 from rfl, Nat.succ_mul]
    omega
theorem sepL_len (op : Int) : (sepL op).length ≤ 5 := by unfold sepL; split <;> decide
mutual
theorem exprL_len : ∀ (x : Ex) (n d m : Nat), mayX x n d = some m → (exprL x).length + 7 + 60 * m ≤ 60 * n
  | .mk op days mile ks, n, d, m, h => by
    have hlt := mayX_lt _ _ _ _ h
    rw [mayX] at h
    split at h
    · cases h
    · split at h
      · rename_i ho
        split at h
        · rename_i hc
          obtain ⟨h1, h2, h3, h4⟩ := hc
          cases h
          rw [exprL, if_pos ho]
          have ht := text_size days h1 h2
          have hm : mile.size ≤ 16 := by
            unfold mileD at h3
            simp only [Bool.and_eq_true, decide_eq_true_eq] at h3
            omega
          have : mile.data.toList.length = mile.size := by simp
          simp only [List.length_append, List.length_cons, List.length_nil]
          omega
        · cases h
      · rename_i ho
        split at h
        · rename_i hc
          rw [exprL, if_neg ho]
          have hp := partsL_sum op ks _ _ _ h
          have hs := sepL_len op
          have hj := join_len (sepL op) (partsL op ks) (by
            intro e
            have := partsL_len op ks
            rw [e] at this
            simp at this
            omega)
          rw [partsL_len] at hj
          have hmul : ks.length * (sepL op).length ≤ ks.length * 5 := Nat.mul_le_mul_left _ hs
          have h2 : 2 ≤ ks.length := hc.2.2.2
          have h4 : 4 ≤ (sepL op).length := by unfold sepL; split <;> decide
          have hmm : ks.length * (sepL op).length = (sepL op).length + (ks.length - 1) * (sepL op).length := by
            rw [Nat.sub_mul, Nat.one_mul]
            have : 1 * (sepL op).length ≤ ks.length * (sepL op).length := Nat.mul_le_mul_right _ (by omega)
            omega
          have hm5 : (ks.length - 1) * (sepL op).length ≤ (ks.length - 1) * 5 := Nat.mul_le_mul_left _ hs
          omega
        · cases h
theorem partsL_sum : ∀ (op : Int) (ks : List Ex) (n d m : Nat), mayXL ks n d = some m → sumL (partsL op ks) + 5 * ks.length + 60 * m ≤ 60 * n
  | op, [], n, d, m, h => by rw [mayXL_nil] at h; cases h; rw [partsL]; simp [sumL]
  | op, k :: ks, n, d, m, h => by
    rw [mayXL_cons] at h
    cases hk : mayX k n d with
    | none => rw [hk] at h; cases h
    | some q =>
      rw [hk] at h
      have h1 := exprL_len k n d q hk
      have h2 := partsL_sum op ks q d m h
      rw [partsL, sumL_cons, List.length_cons]
      split
      · simp only [List.length_cons, List.length_append, List.length_nil]; omega
      · omega
end
end Go.Proofs.YtogpmihepfnoaaaGreatDoor
