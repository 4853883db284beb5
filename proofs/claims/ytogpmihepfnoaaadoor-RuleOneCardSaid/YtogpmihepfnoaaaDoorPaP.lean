/- Reading schedules: plain laws. -/
import Derived.Test.YtogpmihepfnoaaaDoorRuC
namespace Go.Proofs.YtogpmihepfnoaaaDoor
open Go

/-- Where a reader of words stands: the next word, the fuel, the error. -/
structure Pst where
  pos : Nat
  fuel : Int
  err : Int
theorem Pst.ext_ {s t : Pst} (h1 : s.pos = t.pos) (h2 : s.fuel = t.fuel) (h3 : s.err = t.err) : s = t := by
  cases s; cases t; simp_all
/-- A fuel is taken. -/
def burnD (s : Pst) : Pst := if s.err = 0 then (if s.fuel < 1 then { s with err := 14 } else { s with fuel := s.fuel - 1 }) else s
/-- It fails, once. -/
def failD (e : Int) (s : Pst) : Pst := if s.err = 0 then { s with err := e } else s
/-- The next word, if it is right. -/
def takeT (ts : List Tk) (p : Tk → Bool) (s : Pst) : Tk × Pst :=
  if (burnD s).err ≠ 0 then (Tk.zero, burnD s) else
  match ts[s.pos]? with
  | none => (Tk.zero, { burnD s with err := 2 })
  | some t => if p t then (t, { burnD s with pos := s.pos + 1 }) else (Tk.zero, { burnD s with err := 2 })
def kindB (k : Int) (t : Tk) : Bool := decide (t.kind = k)
def wdB (m : ByteArray) (t : Tk) : Bool := decide (t.kind = 1) && decide (t.text = m)
def mileB (t : Tk) : Bool := decide (t.kind = 1) && mileD t.text
/-- Is the next word right? -/
def isT (ts : List Tk) (p : Tk → Bool) (s : Pst) : Bool := decide (s.err = 0) && (match ts[s.pos]? with | none => false | some t => p t)
/-- What stands with a word between. -/
def sevL (ts : List Tk) (one : Pst → Ex × Pst) (m : ByteArray) : Nat → List Ex → Pst → List Ex × Pst
  | 0, ks, s => (ks, s)
  | n + 1, ks, s => if isT ts (wdB m) s then sevL ts one m n (ks ++ [(one (takeT ts (wdB m) s).2).1]) (one (takeT ts (wdB m) s).2).2 else (ks, s)
/-- One alone is itself. -/
def aloneD (op : Int) : List Ex → Ex
  | [x] => x
  | ks => .mk op 0 ⟨#[]⟩ ks
def sevD (ts : List Tk) (one : Pst → Ex × Pst) (op : Int) (m : ByteArray) (s : Pst) : Ex × Pst :=
  (aloneD op (sevL ts one m (ts.length + 1) [(one s).1] (one s).2).1, (sevL ts one m (ts.length + 1) [(one s).1] (one s).2).2)
abbrev wAnd : ByteArray := ⟨#[97, 110, 100]⟩
abbrev wOr : ByteArray := ⟨#[111, 114]⟩
abbrev wAfter : ByteArray := ⟨#[97, 102, 116, 101, 114]⟩
/-- Days after a milestone, or a condition in brackets. -/
def factD (ts : List Tk) (cond : Pst → Ex × Pst) (s : Pst) : Ex × Pst :=
  if isT ts (kindB 4) s then
    ((cond (takeT ts (kindB 4) s).2).1, (takeT ts (kindB 5) (cond (takeT ts (kindB 4) s).2).2).2)
  else
    (.mk 1 (takeT ts (kindB 3) s).1.n (takeT ts mileB (takeT ts (wdB wAfter) (takeT ts (kindB 3) s).2).2).1.text [], (takeT ts mileB (takeT ts (wdB wAfter) (takeT ts (kindB 3) s).2).2).2)
/-- A condition; so many brackets may still be opened, and one. -/
def condD (ts : List Tk) : Nat → Pst → Ex × Pst
  | 0, s => (Ex.none_, failD 2 (burnD s))
  | K + 1, s => if (burnD s).err ≠ 0 then (Ex.none_, burnD s) else sevD ts (sevD ts (factD ts (condD ts K)) 3 wAnd) 2 wOr (burnD s)
abbrev wClass : ByteArray := ⟨#[99, 108, 97, 115, 115]⟩
abbrev wDefault : ByteArray := ⟨#[100, 101, 102, 97, 117, 108, 116]⟩
abbrev wKeep : ByteArray := ⟨#[107, 101, 101, 112]⟩
abbrev wThen : ByteArray := ⟨#[116, 104, 101, 110]⟩
abbrev wDestroy : ByteArray := ⟨#[100, 101, 115, 116, 114, 111, 121]⟩
abbrev wReview : ByteArray := ⟨#[114, 101, 118, 105, 101, 119]⟩
def classD (ts : List Tk) (s : Pst) : ByteArray × Pst :=
  if isT ts (wdB wClass) s then ((takeT ts (kindB 2) (takeT ts (wdB wClass) s).2).1.text, (takeT ts (kindB 2) (takeT ts (wdB wClass) s).2).2)
  else (⟨#[]⟩, (takeT ts (wdB wDefault) s).2)
def actD (ts : List Tk) (s : Pst) : Int × Pst :=
  if isT ts (wdB wDestroy) s then (1, (takeT ts (wdB wDestroy) s).2) else
  if isT ts (wdB wReview) s then (2, (takeT ts (wdB wReview) s).2) else (3, (takeT ts (wdB wKeep) s).2)
/-- A rule. -/
def ruleD (ts : List Tk) (s : Pst) : Ru × Pst :=
  let c := classD ts s
  let x := condD ts 8 (takeT ts (wdB wKeep) c.2).2
  let a := actD ts (takeT ts (wdB wThen) x.2).2
  (⟨c.1, x.1, a.1⟩, (takeT ts (kindB 6) a.2).2)
def rulesD (ts : List Tk) : Nat → List Ru → Pst → List Ru × Pst
  | 0, out, s => (out, s)
  | n + 1, out, s => if s.err = 0 ∧ s.pos < ts.length then rulesD ts n (out ++ [(ruleD ts s).1]) (ruleD ts s).2 else (out, s)
def hereD (ts : List Tk) (len : Nat) (s : Pst) : Int := match ts[s.pos]? with | some t => t.at_ | none => (len : Int)
/-- A text's rules, where that ended, the fuel that is left, and the error. -/
def readD (l : List UInt8) (fuel : Int) : List Ru × Int × Int × Int :=
  if (lexAll l).2.2 ≠ 0 then ([], ((lexAll l).2.1 : Int), 0, (lexAll l).2.2) else
  let r := rulesD (lexAll l).1 ((lexAll l).1.length + 1) [] ⟨0, fuel, 0⟩
  if r.2.err ≠ 0 then ([], hereD (lexAll l).1 l.length r.2, 0, r.2.err) else
  if checkD r.1 ≠ 0 then ([], 0, 0, checkD r.1) else (r.1, (l.length : Int), r.2.fuel, 0)

/-! What each makes of where the reader stands: it goes on only, and an error stays. -/
/-- (it goes on) -/
structure Goes (s t : Pst) : Prop where
  pos : s.pos ≤ t.pos
  fuel : t.fuel ≤ s.fuel
  err : s.err ≠ 0 → t = s
  nn : 0 ≤ s.fuel → 0 ≤ t.fuel
theorem Goes.refl (s : Pst) : Goes s s := ⟨Nat.le_refl _, Int.le_refl _, fun _ => rfl, id⟩
theorem Goes.trans {s t u : Pst} (h : Goes s t) (k : Goes t u) : Goes s u :=
  ⟨Nat.le_trans h.pos k.pos, Int.le_trans k.fuel h.fuel, fun e => by rw [k.err (by rw [h.err e]; exact e), h.err e], fun x => k.nn (h.nn x)⟩
theorem Goes.ok {s t : Pst} (h : Goes s t) (ht : t.err = 0) : s.err = 0 := by
  by_cases e : s.err = 0
  · exact e
  · rw [h.err e] at ht; exact ht
theorem burn_goes (s : Pst) : Goes s (burnD s) := by
  unfold burnD
  split
  · rename_i h
    split
    · exact ⟨Nat.le_refl _, Int.le_refl _, fun e => absurd h e, id⟩
    · exact ⟨Nat.le_refl _, by show s.fuel - 1 ≤ s.fuel; omega, fun e => absurd h e, fun _ => by show 0 ≤ s.fuel - 1; omega⟩
  · exact Goes.refl s
theorem fail_goes (e : Int) (s : Pst) : Goes s (failD e s) := by
  unfold failD
  split
  · rename_i h
    exact ⟨Nat.le_refl _, Int.le_refl _, fun e => absurd h e, id⟩
  · exact Goes.refl s
theorem burn_pos (s : Pst) : (burnD s).pos = s.pos := by
  unfold burnD
  split
  · split <;> rfl
  · rfl
theorem take_goes (ts : List Tk) (p : Tk → Bool) (s : Pst) : Goes s (takeT ts p s).2 := by
  have hb := burn_goes s
  have hp := burn_pos s
  unfold takeT
  split
  · exact hb
  · rename_i h
    have h0 : (burnD s).err = 0 := by omega
    have hs := hb.ok h0
    split
    · exact ⟨hb.pos, hb.fuel, fun e => absurd hs e, hb.nn⟩
    · split
      · exact ⟨Nat.le_succ _, hb.fuel, fun e => absurd hs e, hb.nn⟩
      · exact ⟨hb.pos, hb.fuel, fun e => absurd hs e, hb.nn⟩
/-- A word that was ahead is taken, or there is no fuel. -/
theorem take_is {ts : List Tk} {p : Tk → Bool} {s : Pst} (h : isT ts p s = true) (ho : (takeT ts p s).2.err = 0) : (takeT ts p s).2.pos = s.pos + 1 ∧ s.pos < ts.length := by
  unfold isT at h
  rw [Bool.and_eq_true] at h
  obtain ⟨h1, h2⟩ := h
  revert ho
  unfold takeT
  split
  · rename_i hn; intro e; exact absurd e hn
  · cases ht : ts[s.pos]? with
    | none => rw [ht] at h2; cases h2
    | some t =>
      rw [ht] at h2
      dsimp only at h2 ⊢
      rw [if_pos h2]
      exact fun _ => ⟨rfl, (List.getElem?_eq_some_iff.1 ht).1⟩
theorem sevL_goes {ts : List Tk} {one : Pst → Ex × Pst} (h1 : ∀ s, Goes s (one s).2) (m : ByteArray) : ∀ (n : Nat) (ks : List Ex) (s : Pst), Goes s (sevL ts one m n ks s).2
  | 0, _, s => Goes.refl s
  | n + 1, ks, s => by
    rw [sevL]
    split
    · exact ((take_goes ts _ s).trans (h1 _)).trans (sevL_goes h1 m n _ _)
    · exact Goes.refl s
theorem sevD_goes {ts : List Tk} {one : Pst → Ex × Pst} (h1 : ∀ s, Goes s (one s).2) (op : Int) (m : ByteArray) (s : Pst) : Goes s (sevD ts one op m s).2 :=
  (h1 s).trans (sevL_goes h1 m _ _ _)
theorem factD_goes {ts : List Tk} {cond : Pst → Ex × Pst} (h1 : ∀ s, Goes s (cond s).2) (s : Pst) : Goes s (factD ts cond s).2 := by
  unfold factD
  split
  · exact ((take_goes ts _ s).trans (h1 _)).trans (take_goes ts _ _)
  · exact ((take_goes ts _ s).trans (take_goes ts _ _)).trans (take_goes ts _ _)
theorem condD_goes (ts : List Tk) : ∀ (K : Nat) (s : Pst), Goes s (condD ts K s).2
  | 0, s => (burn_goes s).trans (fail_goes 2 _)
  | K + 1, s => by
    rw [condD]
    split
    · exact burn_goes s
    · exact (burn_goes s).trans (sevD_goes (sevD_goes (factD_goes (condD_goes ts K)) 3 wAnd) 2 wOr _)
theorem classD_goes (ts : List Tk) (s : Pst) : Goes s (classD ts s).2 := by
  unfold classD
  split
  · exact (take_goes ts _ s).trans (take_goes ts _ _)
  · exact take_goes ts _ s
theorem actD_goes (ts : List Tk) (s : Pst) : Goes s (actD ts s).2 := by
  unfold actD
  split
  · exact take_goes ts _ s
  · split
    · exact take_goes ts _ s
    · exact take_goes ts _ s
theorem ruleD_goes (ts : List Tk) (s : Pst) : Goes s (ruleD ts s).2 :=
  ((((classD_goes ts s).trans (take_goes ts _ _)).trans (condD_goes ts 8 _)).trans (take_goes ts _ _)).trans ((actD_goes ts _).trans (take_goes ts _ _))
theorem rulesD_goes (ts : List Tk) : ∀ (n : Nat) (out : List Ru) (s : Pst), Goes s (rulesD ts n out s).2
  | 0, _, s => Goes.refl s
  | n + 1, out, s => by
    rw [rulesD]
    split
    · exact (ruleD_goes ts s).trans (rulesD_goes ts n _ _)
    · exact Goes.refl s
/-- A loop's way: what it comes to does not turn. -/
theorem sevL_step {ts : List Tk} {one : Pst → Ex × Pst} (h1 : ∀ s, Goes s (one s).2) {m : ByteArray} {n : Nat} {ks : List Ex} {s : Pst} (h : isT ts (wdB m) s = true) (hn : s.err = 0 → ts.length < s.pos + n) :
    ∃ n', n = n' + 1 ∧ sevL ts one m n ks s = sevL ts one m n' (ks ++ [(one (takeT ts (wdB m) s).2).1]) (one (takeT ts (wdB m) s).2).2 ∧ ((one (takeT ts (wdB m) s).2).2.err = 0 → ts.length < (one (takeT ts (wdB m) s).2).2.pos + n') := by
  have h0 : s.err = 0 := by
    unfold isT at h
    rw [Bool.and_eq_true] at h
    exact of_decide_eq_true h.1
  have hlt : s.pos < ts.length := by
    have h' := h
    unfold isT at h'
    rw [Bool.and_eq_true] at h'
    cases ht : ts[s.pos]? with
    | none => rw [ht] at h'; exact absurd h'.2 (by simp)
    | some t => exact (List.getElem?_eq_some_iff.1 ht).1
  have := hn h0
  match n, this with
  | 0, this => omega
  | n' + 1, this =>
    refine ⟨n', rfl, by rw [sevL, if_pos h], fun e => ?_⟩
    have g := h1 (takeT ts (wdB m) s).2
    have e1 := g.ok e
    have e2 := (take_is h e1).1
    have e3 := g.pos
    omega
theorem sevL_end {ts : List Tk} {one : Pst → Ex × Pst} {m : ByteArray} {n : Nat} {ks : List Ex} {s : Pst} (h : isT ts (wdB m) s = false) : sevL ts one m n ks s = (ks, s) := by
  cases n with
  | zero => rfl
  | succ n => rw [sevL, h, if_neg (by simp)]
end Go.Proofs.YtogpmihepfnoaaaDoor
