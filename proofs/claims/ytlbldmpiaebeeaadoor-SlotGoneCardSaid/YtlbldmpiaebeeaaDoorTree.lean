/- Slices in blocks of a kind; scopes as trees: plain laws. -/
import Derived.Test.YtlbldmpiaebeeaaDoorBytes
namespace Go.Proofs.YtlbldmpiaebeeaaDoor
open Go Go.RowKit

/-- A slice that reads as these cells, in blocks of a kind. -/
def Rk (w : World) (K : Nat → Prop) (size : Nat) (A : Option Addr) (n : Nat) (xs : List Value) : Prop :=
  xs.length = n * size ∧ (0 < n → ∃ ad, A = some ad ∧ K ad.block ∧ ∀ j u, xs[j]? = some u → w.cell? (ad.add j) = some u)
section
variable {w w' : World} {K K' : Nat → Prop} {size n : Nat} {A : Option Addr} {xs : List Value}
theorem Rk.nil (w : World) (K : Nat → Prop) (size : Nat) (A : Option Addr) : Rk w K size A 0 [] := ⟨by simp, fun h => absurd h (by omega)⟩
theorem Rk.keep (h : Rk w K size A n xs) (hk : ∀ p : Addr, K p.block → w'.cell? p = w.cell? p) : Rk w' K size A n xs :=
  ⟨h.1, fun hn => by
    obtain ⟨ad, e, hb, hc⟩ := h.2 hn
    exact ⟨ad, e, hb, fun j u hu => (hk _ (by rw [block_of_add]; exact hb)).trans (hc j u hu)⟩⟩
theorem Rk.mono (h : Rk w K size A n xs) (hk : ∀ b, K b → K' b) : Rk w K' size A n xs :=
  ⟨h.1, fun hn => by
    obtain ⟨ad, e, hb, hc⟩ := h.2 hn
    exact ⟨ad, e, hk _ hb, hc⟩⟩
theorem Rk.reads {B : Nat} (h : Rk w K size A n xs) (hk : ∀ b, K b → b < B) : Reads w B size A n xs :=
  ⟨h.1, fun hn => by
    obtain ⟨ad, e, hb, hc⟩ := h.2 hn
    exact ⟨ad, e, hk _ hb, hc⟩⟩
theorem Rk.of_reads {B : Nat} (h : Reads w B size A n xs) : Rk w (· < B) size A n xs := h
end
/-- Bytes in blocks of a kind. -/
def RkB (w : World) (K : Nat → Prop) (v : Value) (l : List UInt8) : Prop := ∃ A c, v = .slice A l.length c ∧ l.length ≤ c ∧ Rk w K 1 A l.length (bvs l)
section
variable {w w' : World} {K K' : Nat → Prop} {v : Value} {l : List UInt8}
theorem RkB.keep (h : RkB w K v l) (hk : ∀ p : Addr, K p.block → w'.cell? p = w.cell? p) : RkB w' K v l := by
  obtain ⟨A, c, e, hc, hr⟩ := h
  exact ⟨A, c, e, hc, hr.keep hk⟩
theorem RkB.mono (h : RkB w K v l) (hk : ∀ b, K b → K' b) : RkB w K' v l := by
  obtain ⟨A, c, e, hc, hr⟩ := h
  exact ⟨A, c, e, hc, hr.mono hk⟩
theorem RkB.rd {B : Nat} (h : RkB w K v l) (hk : ∀ b, K b → b < B) : RdB w B v l := by
  obtain ⟨A, c, e, hc, hr⟩ := h
  exact ⟨A, c, e, hc, hr.reads hk⟩
theorem RkB.nil (w : World) (K : Nat → Prop) : RkB w K (.slice none 0 0) [] := ⟨none, 0, rfl, Nat.le_refl _, Rk.nil w K 1 none⟩
theorem OwnB.rk {base : Nat} (h : OwnB w base v l) : RkB w (fun b => base ≤ b ∧ b < w.heap.size) v l := by
  rcases h.2 with ⟨rfl, h0⟩ | ⟨g, cap, cur, rfl, e2, e3, e4, e5⟩
  · have h1 : l = [] := List.eq_nil_of_length_eq_zero (by simpa using h0)
    subst h1
    exact RkB.nil w _
  · obtain ⟨A, c, e, hc, hr⟩ := h.rd
    injection e with e1 e6 e7
    subst e1 e7
    refine ⟨_, _, rfl, hc, hr.1, fun hn => ?_⟩
    obtain ⟨ad, ea, hlt, hcs⟩ := hr.2 hn
    injection ea with ea
    subst ea
    exact ⟨_, rfl, ⟨e2, hlt⟩, hcs⟩
end

/-- A scope. -/
inductive Sc where
  | mk (op : Int) (name : ByteArray) (fr to_ : Int) (kids : List Sc)
mutual
/-- A scope in memory. -/
def RdSc (w : World) (K : Nat → Prop) : Sc → Value → Prop
  | .mk op nm fr to_ ks, v => ∃ A c vs, v = .agg #[.int .i64 op, .string nm, .int .i64 fr, .int .i64 to_, .slice A ks.length c] ∧ (ks.length ≤ c ∧ c ≤ maxLen) ∧ Rk w K 5 A ks.length vs ∧ RdScL w K ks vs
def RdScL (w : World) (K : Nat → Prop) : List Sc → List Value → Prop
  | [], vs => vs = []
  | k :: ks, vs => ∃ v0 v1 v2 v3 v4 r, vs = v0 :: v1 :: v2 :: v3 :: v4 :: r ∧ RdSc w K k (.agg #[v0, v1, v2, v3, v4]) ∧ RdScL w K ks r
end
mutual
theorem RdSc.keep {w w' : World} {K : Nat → Prop} (hk : ∀ p : Addr, K p.block → w'.cell? p = w.cell? p) : ∀ (x : Sc) (v : Value), RdSc w K x v → RdSc w' K x v
  | .mk op nm fr to_ ks, v, h => by
    rw [RdSc] at h ⊢
    obtain ⟨A, c, vs, e, hc, hr, hl⟩ := h
    exact ⟨A, c, vs, e, hc, hr.keep hk, RdScL.keep hk ks vs hl⟩
theorem RdScL.keep {w w' : World} {K : Nat → Prop} (hk : ∀ p : Addr, K p.block → w'.cell? p = w.cell? p) : ∀ (xs : List Sc) (vs : List Value), RdScL w K xs vs → RdScL w' K xs vs
  | [], vs, h => by rw [RdScL] at h ⊢; exact h
  | k :: ks, vs, h => by
    rw [RdScL] at h ⊢
    obtain ⟨v0, v1, v2, v3, v4, r, e, hx, hl⟩ := h
    exact ⟨v0, v1, v2, v3, v4, r, e, RdSc.keep hk k _ hx, RdScL.keep hk ks r hl⟩
end
mutual
theorem RdSc.mono {w : World} {K K' : Nat → Prop} (hk : ∀ b, K b → K' b) : ∀ (x : Sc) (v : Value), RdSc w K x v → RdSc w K' x v
  | .mk op nm fr to_ ks, v, h => by
    rw [RdSc] at h ⊢
    obtain ⟨A, c, vs, e, hc, hr, hl⟩ := h
    exact ⟨A, c, vs, e, hc, hr.mono hk, RdScL.mono hk ks vs hl⟩
theorem RdScL.mono {w : World} {K K' : Nat → Prop} (hk : ∀ b, K b → K' b) : ∀ (xs : List Sc) (vs : List Value), RdScL w K xs vs → RdScL w K' xs vs
  | [], vs, h => by rw [RdScL] at h ⊢; exact h
  | k :: ks, vs, h => by
    rw [RdScL] at h ⊢
    obtain ⟨v0, v1, v2, v3, v4, r, e, hx, hl⟩ := h
    exact ⟨v0, v1, v2, v3, v4, r, e, RdSc.mono hk k _ hx, RdScL.mono hk ks r hl⟩
end
/-- A kid. -/
theorem RdScL.at_ {w : World} {K : Nat → Prop} : ∀ (xs : List Sc) (vs : List Value) (k : Nat) (x : Sc), RdScL w K xs vs → xs[k]? = some x →
    ∃ v0 v1 v2 v3 v4, vs[k * 5]? = some v0 ∧ vs[k * 5 + 1]? = some v1 ∧ vs[k * 5 + 2]? = some v2 ∧ vs[k * 5 + 3]? = some v3 ∧ vs[k * 5 + 4]? = some v4 ∧ RdSc w K x (.agg #[v0, v1, v2, v3, v4])
  | [], vs, k, x, h, hx => by simp at hx
  | y :: ys, vs, 0, x, h, hx => by
    rw [RdScL] at h
    obtain ⟨v0, v1, v2, v3, v4, r, rfl, hy, hl⟩ := h
    simp only [List.getElem?_cons_zero, Option.some.injEq] at hx
    subst hx
    exact ⟨v0, v1, v2, v3, v4, rfl, rfl, rfl, rfl, rfl, hy⟩
  | y :: ys, vs, k + 1, x, h, hx => by
    rw [RdScL] at h
    obtain ⟨v0, v1, v2, v3, v4, r, rfl, hy, hl⟩ := h
    simp only [List.getElem?_cons_succ] at hx
    obtain ⟨u0, u1, u2, u3, u4, h0, h1, h2, h3, h4, hs⟩ := RdScL.at_ ys r k x hl hx
    refine ⟨u0, u1, u2, u3, u4, ?_, ?_, ?_, ?_, ?_, hs⟩
    all_goals rw [show (k + 1) * 5 = k * 5 + 5 by omega]
    · exact h0
    · exact h1
    · exact h2
    · exact h3
    · exact h4
/-- What a scope's struct holds. -/
theorem RdSc.form {w : World} {K : Nat → Prop} {op fr to_ : Int} {nm : ByteArray} {ks : List Sc} {v : Value} (h : RdSc w K (.mk op nm fr to_ ks) v) :
    ∃ A c vs, v = .agg #[.int .i64 op, .string nm, .int .i64 fr, .int .i64 to_, .slice A ks.length c] ∧ (ks.length ≤ c ∧ c ≤ maxLen) ∧ Rk w K 5 A ks.length vs ∧ RdScL w K ks vs := by
  rw [RdSc] at h
  exact h
mutual
def scEq : Sc → Sc → Bool
  | .mk o n f t ks, .mk o' n' f' t' ks' => decide (o = o') && decide (n = n') && decide (f = f') && decide (t = t') && scEqL ks ks'
def scEqL : List Sc → List Sc → Bool
  | [], [] => true
  | k :: ks, l :: ls => scEq k l && scEqL ks ls
  | [], _ :: _ => false
  | _ :: _, [] => false
end
mutual
theorem scEq_refl : ∀ x : Sc, scEq x x = true
  | .mk o n f t ks => by rw [scEq, scEqL_refl ks]; simp
theorem scEqL_refl : ∀ xs : List Sc, scEqL xs xs = true
  | [] => by rw [scEqL]
  | k :: ks => by rw [scEqL, scEq_refl k, scEqL_refl ks]; rfl
end
theorem scEqL_len : ∀ (xs ys : List Sc), scEqL xs ys = true → xs.length = ys.length
  | [], [], _ => rfl
  | [], _ :: _, h => by rw [scEqL] at h; cases h
  | _ :: _, [], h => by rw [scEqL] at h; cases h
  | x :: xs, y :: ys, h => by
    rw [scEqL, Bool.and_eq_true] at h
    simp [scEqL_len xs ys h.2]
/-- Lists are the same as far as k. -/
theorem scEqL_take : ∀ (xs ys : List Sc), xs.length = ys.length → (scEqL xs ys = true ↔ ∀ (k : Nat) (x y : Sc), xs[k]? = some x → ys[k]? = some y → scEq x y = true)
  | [], [], _ => by simp [scEqL]
  | [], _ :: _, h => by simp at h
  | _ :: _, [], h => by simp at h
  | x :: xs, y :: ys, h => by
    rw [scEqL, Bool.and_eq_true, scEqL_take xs ys (by simpa using h)]
    constructor
    · rintro ⟨h0, h1⟩ k a b ha hb
      cases k with
      | zero => simp only [List.getElem?_cons_zero, Option.some.injEq] at ha hb; subst ha; subst hb; exact h0
      | succ k => simp only [List.getElem?_cons_succ] at ha hb; exact h1 k a b ha hb
    · intro h
      exact ⟨h 0 x y rfl rfl, fun k a b ha hb => h (k + 1) a b ha hb⟩
end Go.Proofs.YtlbldmpiaebeeaaDoor
