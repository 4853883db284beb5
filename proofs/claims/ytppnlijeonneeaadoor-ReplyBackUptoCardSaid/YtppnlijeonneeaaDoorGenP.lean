/- Scripts made by numbers: what dice throw: plain laws (no program). -/
import Derived.Test.YtppnlijeonneeaaDoorTree
namespace Go.Proofs.YtppnlijeonneeaaDoor
open Go

/-- The next state. -/
def nextS (s : Int) : Int := (s * 2862933555777941757 % 18446744073709551616 + 3037000493) % 18446744073709551616
theorem nextS_le (s : Int) : 0 ≤ nextS s ∧ nextS s < 18446744073709551616 := by unfold nextS; omega
/-- A number below another one. -/
def belowN (n s : Int) : Int := if n < 1 then 0 else (nextS s / 8589934592) % n
def belowS (n s : Int) : Int := if n < 1 then s else nextS s
theorem belowN_le (n s : Int) (h : 1 ≤ n) : 0 ≤ belowN n s ∧ belowN n s < n := by
  unfold belowN
  rw [if_neg (by omega)]
  exact ⟨Int.emod_nonneg _ (by omega), Int.emod_lt_of_pos _ (by omega)⟩
theorem belowS_le (n s : Int) (h0 : 0 ≤ s) (h1 : s < 18446744073709551616) : 0 ≤ belowS n s ∧ belowS n s < 18446744073709551616 := by
  unfold belowS
  split
  · exact ⟨h0, h1⟩
  · exact nextS_le s
def IsS (s : Int) : Prop := 0 ≤ s ∧ s < 18446744073709551616
theorem isS_below {n s : Int} (h : IsS s) : IsS (belowS n s) := belowS_le n s h.1 h.2

/-- A name: a letter, and a digit. -/
def gName (c : UInt8) (s : Int) : ByteArray := ⟨#[c, UInt8.ofNat (48 + (belowN 4 s).toNat)]⟩
/-- One of some words. -/
def gOne (l : List ByteArray) (s : Int) : ByteArray := l.getD (belowN l.length s).toNat ⟨#[]⟩
def classesL : List ByteArray := [⟨#[104, 114]⟩, ⟨#[116, 97, 120]⟩, ⟨#[109, 101, 100]⟩]
def milesL : List ByteArray := [⟨#[99, 108, 111, 115, 101, 100]⟩, ⟨#[108, 101, 102, 116]⟩, ⟨#[112, 97, 105, 100]⟩]
/-- The letter of a kind's A. -/
def gLetter (kind : Int) : UInt8 :=
  if kind = 3 ∨ kind = 7 ∨ kind = 19 then 99 else if kind = 4 ∨ kind = 17 then 115 else if kind = 9 ∨ kind = 10 ∨ kind = 11 then 104 else 114
/-- The B of a kind. -/
def gSecond (kind s : Int) : ByteArray := if kind = 5 then gName 99 s else if kind = 7 then gOne milesL s else gOne classesL s
def gSecondS (kind s : Int) : Int := if kind = 5 then belowS 4 s else belowS 3 s
/-- The N of a kind. -/
def gNumber (kind s : Int) : Int := if kind = 1 then belowN 9 s + 1 else belowN 8 s
def gNumberS (kind s : Int) : Int := if kind = 1 then belowS 9 s else belowS 8 s
/-- So many bytes. -/
def gBytes : Nat → Int → List UInt8
  | 0, _ => []
  | n + 1, s => UInt8.ofNat (belowN 256 s).toNat :: gBytes n (belowS 256 s)
def gBytesS : Nat → Int → Int
  | 0, s => s
  | n + 1, s => gBytesS n (belowS 256 s)
theorem gBytes_len : ∀ (n : Nat) (s : Int), (gBytes n s).length = n
  | 0, _ => rfl
  | n + 1, s => by rw [gBytes, List.length_cons, gBytes_len n]
theorem gBytes_snoc : ∀ (n : Nat) (s : Int), gBytes (n + 1) s = gBytes n s ++ [UInt8.ofNat (belowN 256 (gBytesS n s)).toNat]
  | 0, s => rfl
  | n + 1, s => by rw [gBytes, gBytes_snoc n, gBytes, gBytesS]; rfl
theorem gBytesS_snoc : ∀ (n : Nat) (s : Int), gBytesS (n + 1) s = belowS 256 (gBytesS n s)
  | 0, s => rfl
  | n + 1, s => by rw [gBytesS, gBytesS_snoc n, gBytesS]
theorem isS_bytes : ∀ (n : Nat) (s : Int), IsS s → IsS (gBytesS n s)
  | 0, _, h => h
  | n + 1, _, h => isS_bytes n _ (isS_below h)
def textLong : List UInt8 := [99, 108, 97, 115, 115, 32, 34, 104, 114, 34, 32, 107, 101, 101, 112, 32, 51, 100, 32, 97, 102, 116, 101, 114, 32, 105, 110, 103, 101, 115, 116, 32, 116, 104, 101, 110, 32, 100, 101, 115, 116, 114, 111, 121, 59, 32, 100, 101, 102, 97, 117, 108, 116, 32, 107, 101, 101, 112, 32, 53, 100, 32, 97, 102, 116, 101, 114, 32, 105, 110, 103, 101, 115, 116, 32, 111, 114, 32, 49, 100, 32, 97, 102, 116, 101, 114, 32, 99, 108, 111, 115, 101, 100, 32, 116, 104, 101, 110, 32, 114, 101, 118, 105, 101, 119, 59]
def textShort : List UInt8 := [100, 101, 102, 97, 117, 108, 116, 32, 107, 101, 101, 112, 32, 50, 100, 32, 97, 102, 116, 101, 114, 32, 105, 110, 103, 101, 115, 116, 32, 116, 104, 101, 110, 32, 100, 101, 115, 116, 114, 111, 121, 59]
/-- The Data of a kind. -/
def gData (kind s : Int) : List UInt8 := if kind = 2 then (if belowN 2 s = 1 then textShort else textLong) else gBytes (belowN 8 s).toNat (belowS 8 s)
def gDataS (kind s : Int) : Int := if kind = 2 then belowS 2 s else gBytesS (belowN 8 s).toNat (belowS 8 s)
/-- A scope. -/
def gScope (s : Int) : Sc :=
  if belowN 4 s = 0 then .mk 1 ⟨#[]⟩ 0 0 [] else if belowN 4 s = 1 then .mk 2 (gName 99 (belowS 4 s)) 0 0 [] else
  if belowN 4 s = 2 then .mk 8 ⟨#[]⟩ 0 0 [.mk 3 (gName 115 (belowS 4 s)) 0 0 []] else .mk 7 ⟨#[]⟩ 0 0 [.mk 4 ⟨#[104, 114]⟩ 0 0 [], .mk 5 ⟨#[]⟩ 0 (belowN 9 (belowS 4 s)) []]
def gScopeS (s : Int) : Int :=
  if belowN 4 s = 0 then belowS 4 s else if belowN 4 s = 1 then belowS 4 (belowS 4 s) else if belowN 4 s = 2 then belowS 4 (belowS 4 s) else belowS 9 (belowS 4 s)
/-- A command. -/
structure Cm where
  kind : Int
  a : ByteArray
  b : ByteArray
  c : ByteArray
  d : ByteArray
  n : Int
  data : List UInt8
  salt : Int
  draw : Int
  scope : Sc
abbrev Sc.zero : Sc := .mk 0 ⟨#[]⟩ 0 0 []
def Cm.ofKind (k : Int) : Cm := ⟨k, ⟨#[]⟩, ⟨#[]⟩, ⟨#[]⟩, ⟨#[]⟩, 0, [], 0, 0, Sc.zero⟩
/-- A field is thrown (the program's letters: a small one is the A's). -/
def fieldP (salt : Int) (f : Nat) (x : Cm × Int) : Cm × Int :=
  if f = 66 then ({ x.1 with b := gSecond x.1.kind x.2 }, gSecondS x.1.kind x.2) else
  if f = 67 then ({ x.1 with c := gName 115 x.2 }, belowS 4 x.2) else
  if f = 68 then ({ x.1 with d := gOne classesL x.2 }, belowS 3 x.2) else
  if f = 78 then ({ x.1 with n := gNumber x.1.kind x.2 }, gNumberS x.1.kind x.2) else
  if f = 84 then ({ x.1 with data := gData x.1.kind x.2 }, gDataS x.1.kind x.2) else
  if f = 83 then ({ x.1 with salt := salt }, x.2) else
  if f = 75 then ({ x.1 with draw := salt + 31 }, x.2) else
  if f = 88 then ({ x.1 with scope := gScope x.2 }, gScopeS x.2) else
  ({ x.1 with a := gName (UInt8.ofNat f) x.2 }, belowS 4 x.2)
/-- A field is thrown (the reference's letters). -/
def fieldR (salt : Int) (f : Nat) (x : Cm × Int) : Cm × Int :=
  if f = 65 then ({ x.1 with a := gName (gLetter x.1.kind) x.2 }, belowS 4 x.2) else
  if f = 66 then ({ x.1 with b := gSecond x.1.kind x.2 }, gSecondS x.1.kind x.2) else
  if f = 67 then ({ x.1 with c := gName 115 x.2 }, belowS 4 x.2) else
  if f = 68 then ({ x.1 with d := gOne classesL x.2 }, belowS 3 x.2) else
  if f = 78 then ({ x.1 with n := gNumber x.1.kind x.2 }, gNumberS x.1.kind x.2) else
  if f = 84 then ({ x.1 with data := gData x.1.kind x.2 }, gDataS x.1.kind x.2) else
  if f = 83 then ({ x.1 with salt := salt }, x.2) else
  if f = 75 then ({ x.1 with draw := salt + 31 }, x.2) else
  ({ x.1 with scope := gScope x.2 }, gScopeS x.2)
/-- What a kind has, the program's letters. -/
def fieldsP : Nat → List UInt8
  | 1 => [78]
  | 2 => [84, 83]
  | 3 => [99, 83]
  | 4 => [115, 83, 75]
  | 5 => [114, 66, 67, 68, 84, 83, 75]
  | 6 => [114]
  | 7 => [99, 66, 83]
  | 8 => [114, 66, 83]
  | 9 => [104, 88, 83]
  | 10 => [104, 83]
  | 11 => [104, 88, 83]
  | 12 => [83]
  | 13 => []
  | 14 => [114, 83]
  | 15 => [114, 83]
  | 16 => [114, 83]
  | 17 => [115, 83]
  | 18 => [78, 83]
  | 19 => [99]
  | 20 => [114]
  | 21 => [114]
  | 22 => []
  | _ => []
/-- What a kind has, the reference's letters. -/
def fieldsR : Nat → List UInt8
  | 1 => [78]
  | 2 => [84, 83]
  | 3 => [65, 83]
  | 4 => [65, 83, 75]
  | 5 => [65, 66, 67, 68, 84, 83, 75]
  | 6 => [65]
  | 7 => [65, 66, 83]
  | 8 => [65, 66, 83]
  | 9 => [65, 88, 83]
  | 10 => [65, 83]
  | 11 => [65, 88, 83]
  | 12 => [83]
  | 13 => []
  | 14 => [65, 83]
  | 15 => [65, 83]
  | 16 => [65, 83]
  | 17 => [65, 83]
  | 18 => [78, 83]
  | 19 => [65]
  | 20 => [65]
  | 21 => [65]
  | 22 => []
  | _ => [45]
/-- A command, with its salts. -/
def cmdD (salt s : Int) : Cm × Int := ((fieldsP (belowN 22 s + 1).toNat).map UInt8.toNat).foldl (fun x f => fieldP salt f x) (Cm.ofKind (belowN 22 s + 1), belowS 22 s)
def cmdR (salt s : Int) : Cm × Int := ((fieldsR (belowN 22 s + 1).toNat).map UInt8.toNat).foldl (fun x f => fieldR salt f x) (Cm.ofKind (belowN 22 s + 1), belowS 22 s)

theorem fieldP_kind (salt : Int) (f : Nat) (x : Cm × Int) : (fieldP salt f x).1.kind = x.1.kind := by
  unfold fieldP
  repeat' split
  all_goals rfl
/-- The reference's letter. -/
def upL (f : Nat) : Nat := if f = 66 ∨ f = 67 ∨ f = 68 ∨ f = 78 ∨ f = 84 ∨ f = 83 ∨ f = 75 ∨ f = 88 then f else 65
def okL (kind : Int) (f : Nat) : Bool := decide (f = 66 ∨ f = 67 ∨ f = 68 ∨ f = 78 ∨ f = 84 ∨ f = 83 ∨ f = 75 ∨ f = 88) || decide (f = (gLetter kind).toNat ∧ f ≠ 65)
theorem field_same (salt : Int) (f : Nat) (x : Cm × Int) (h : okL x.1.kind f = true) : fieldP salt f x = fieldR salt (upL f) x := by
  unfold okL at h
  rw [Bool.or_eq_true, decide_eq_true_eq, decide_eq_true_eq] at h
  by_cases h1 : f = 66 ∨ f = 67 ∨ f = 68 ∨ f = 78 ∨ f = 84 ∨ f = 83 ∨ f = 75 ∨ f = 88
  · rcases h1 with rfl | rfl | rfl | rfl | rfl | rfl | rfl | rfl <;> rfl
  · rcases h with h | ⟨h, _⟩
    · exact absurd h h1
    · have e : upL f = 65 := by unfold upL; rw [if_neg h1]
      rw [e]
      unfold fieldP fieldR
      simp only [not_or] at h1
      obtain ⟨n1, n2, n3, n4, n5, n6, n7, n8⟩ := h1
      rw [if_neg n1, if_neg n2, if_neg n3, if_neg n4, if_neg n5, if_neg n6, if_neg n7, if_neg n8, if_pos rfl, h]
      simp
theorem fold_same (salt k : Int) : ∀ (l : List Nat) (x : Cm × Int), x.1.kind = k → (l.all (okL k)) = true → l.foldl (fun x f => fieldP salt f x) x = (l.map upL).foldl (fun x f => fieldR salt f x) x
  | [], _, _, _ => rfl
  | f :: l, x, hk, h => by
    rw [List.all_cons, Bool.and_eq_true] at h
    rw [List.map_cons, List.foldl_cons, List.foldl_cons, ← field_same salt f x (by rw [hk]; exact h.1)]
    exact fold_same salt k l _ (by rw [fieldP_kind, hk]) h.2
theorem fields_ok : ∀ k : Nat, k < 22 → ((fieldsP (k + 1)).map UInt8.toNat).all (okL ((k + 1 : Nat) : Int)) = true := by decide
theorem fields_up : ∀ k : Nat, k < 22 → ((fieldsP (k + 1)).map UInt8.toNat).map upL = (fieldsR (k + 1)).map UInt8.toNat := by decide
/-- Both throw the same command. -/
theorem cmd_same (salt s : Int) : cmdD salt s = cmdR salt s := by
  unfold cmdD cmdR
  have hb := belowN_le 22 s (by omega)
  obtain ⟨k, hk⟩ : ∃ k : Nat, belowN 22 s = k := ⟨(belowN 22 s).toNat, by omega⟩
  have hk' : k < 22 := by omega
  have e : (belowN 22 s + 1).toNat = k + 1 := by omega
  rw [e, fold_same salt ((k + 1 : Nat) : Int) _ _ (by simp [Cm.ofKind]; omega) (fields_ok k hk'), fields_up k hk']
/-- The dice behind k commands, and the commands. -/
def scrS (seed : Int) : Nat → Int
  | 0 => seed
  | k + 1 => (cmdD (32 * ((k : Int) + 1)) (scrS seed k)).2
def scrL (seed : Int) : Nat → List Cm
  | 0 => []
  | k + 1 => scrL seed k ++ [(cmdD (32 * ((k : Int) + 1)) (scrS seed k)).1]
theorem scrL_len (seed : Int) : ∀ k, (scrL seed k).length = k
  | 0 => rfl
  | k + 1 => by rw [scrL, List.length_append, scrL_len seed k]; rfl
theorem isS_if {p : Prop} [Decidable p] {a b : Int} (h1 : IsS a) (h2 : IsS b) : IsS (if p then a else b) := by split <;> assumption
theorem isS_fieldP {salt : Int} {f : Nat} {x : Cm × Int} (h : IsS x.2) : IsS (fieldP salt f x).2 := by
  have h2 : IsS (gSecondS x.1.kind x.2) := isS_if (isS_below h) (isS_below h)
  have h3 : IsS (gNumberS x.1.kind x.2) := isS_if (isS_below h) (isS_below h)
  have h4 : IsS (gDataS x.1.kind x.2) := isS_if (isS_below h) (isS_bytes _ _ (isS_below h))
  have h5 : IsS (gScopeS x.2) := isS_if (isS_below h) (isS_if (isS_below (isS_below h)) (isS_if (isS_below (isS_below h)) (isS_below (isS_below h))))
  have h6 : ∀ n, IsS (belowS n x.2) := fun n => isS_below h
  unfold fieldP
  split
  · exact h2
  split
  · exact h6 4
  split
  · exact h6 3
  split
  · exact h3
  split
  · exact h4
  split
  · exact h
  split
  · exact h
  split
  · exact h5
  · exact h6 4
theorem isS_fold (salt : Int) : ∀ (l : List Nat) (x : Cm × Int), IsS x.2 → IsS (l.foldl (fun x f => fieldP salt f x) x).2
  | [], _, h => h
  | _ :: l, _, h => isS_fold salt l _ (isS_fieldP h)
theorem isS_scr (seed : Int) (h : IsS seed) : ∀ k, IsS (scrS seed k)
  | 0 => h
  | k + 1 => by
    have h1 : IsS (belowS 22 (scrS seed k)) := isS_below (isS_scr seed h k)
    exact isS_fold _ _ (Cm.ofKind (belowN 22 (scrS seed k) + 1), belowS 22 (scrS seed k)) h1
/-- Are commands the same? -/
def cmEq (x y : Cm) : Bool := decide (x.kind = y.kind) && decide (x.a = y.a) && decide (x.b = y.b) && decide (x.c = y.c) && decide (x.d = y.d) && decide (x.n = y.n) && decide (x.salt = y.salt) && decide (x.draw = y.draw) && decide (x.data = y.data) && scEq x.scope y.scope
theorem cmEq_refl (x : Cm) : cmEq x x = true := by unfold cmEq; rw [scEq_refl]; simp
/-- A command in memory. -/
def RdCm (w : World) (K : Nat → Prop) (x : Cm) (v : Value) : Prop := ∃ vd A c vs op nm fr to_ ks, x.scope = .mk op nm fr to_ ks ∧
  v = .agg #[.int .i64 x.kind, .string x.a, .string x.b, .string x.c, .string x.d, .int .i64 x.n, vd, .int .u64 x.salt, .int .u64 x.draw, .int .i64 op, .string nm, .int .i64 fr, .int .i64 to_, .slice A ks.length c] ∧
  RkB w K vd x.data ∧ (ks.length ≤ c ∧ c ≤ maxLen) ∧ Rk w K 5 A ks.length vs ∧ RdScL w K ks vs
theorem RdCm.keep {w w' : World} {K : Nat → Prop} {x : Cm} {v : Value} (h : RdCm w K x v) (hk : ∀ p : Addr, K p.block → w'.cell? p = w.cell? p) : RdCm w' K x v := by
  obtain ⟨vd, A, c, vs, op, nm, fr, to_, ks, e1, e2, h1, h2, h3, h4⟩ := h
  exact ⟨vd, A, c, vs, op, nm, fr, to_, ks, e1, e2, h1.keep hk, h2, h3.keep hk, RdScL.keep hk ks vs h4⟩
theorem RdCm.mono {w : World} {K K' : Nat → Prop} {x : Cm} {v : Value} (h : RdCm w K x v) (hk : ∀ b, K b → K' b) : RdCm w K' x v := by
  obtain ⟨vd, A, c, vs, op, nm, fr, to_, ks, e1, e2, h1, h2, h3, h4⟩ := h
  exact ⟨vd, A, c, vs, op, nm, fr, to_, ks, e1, e2, h1.mono hk, h2, h3.mono hk, RdScL.mono hk ks vs h4⟩
end Go.Proofs.YtppnlijeonneeaaDoor
