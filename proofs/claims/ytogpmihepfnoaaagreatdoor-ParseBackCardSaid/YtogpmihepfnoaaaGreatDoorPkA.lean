/- Reading schedules: plain laws. How much fuel a reading needs: plain laws. How much fuel a reading uses at most: plain laws. What is written is read back: the words of a condition: plain laws. What is written is read back: a condition: plain laws. What is written is read back: rules: plain laws. -/
import Derived.Test.YtogpmihepfnoaaaGreatDoorRuC
import Derived.Test.YtogpmihepfnoaaaGreatDoorRuT
namespace Go.Proofs.YtogpmihepfnoaaaGreatDoor
open Go

/-- Where a reader of words stands: the next word, the fuel, the error. -/
structure Pst where
  pos : Nat
  fuel : Int
  err : Int
theorem Pst.ext_ {s t : Pst} (h1 : s.pos = t.pos) (h2 : s.fuel = t.fuel) (h3 : s.err = t.err) : s = t := by
  cases s; cases t; simp_all
/-- A fuel is taken. -/
def burnD (s : Pst) : Pst := if s.err = 0 then (if s.fuel < 1 then { s with err := 14 } else { s with fuel := s.fuel - 1 }) else s
/-- It fails, once. -/
def failD (e : Int) (s : Pst) : Pst := if s.err = 0 then { s with err := e } else s
/-- The next word, if it is right. -/
def takeT (ts : List Tk) (p : Tk → Bool) (s : Pst) : Tk × Pst :=
  if (burnD s).err ≠ 0 then (Tk.zero, burnD s) else
  match ts[s.pos]? with
  | none => (Tk.zero, { burnD s with err := 2 })
  | some t => if p t then (t, { burnD s with pos := s.pos + 1 }) else (Tk.zero, { burnD s with err := 2 })
def kindB (k : Int) (t : Tk) : Bool := decide (t.kind = k)
def wdB (m : ByteArray) (t : Tk) : Bool := decide (t.kind = 1) && decide (t.text = m)
def mileB (t : Tk) : Bool := decide (t.kind = 1) && mileD t.text
/-- Is the next word right? -/
def isT (ts : List Tk) (p : Tk → Bool) (s : Pst) : Bool := decide (s.err = 0) && (match ts[s.pos]? with | none => false | some t => p t)
/-- What stands with a word between. -/
def sevL (ts : List Tk) (one : Pst → Ex × Pst) (m : ByteArray) : Nat → List Ex → Pst → List Ex × Pst
  | 0, ks, s => (ks, s)
  | n + 1, ks, s => if isT ts (wdB m) s then sevL ts one m n (ks ++ [(one (takeT ts (wdB m) s).2).1]) (one (takeT ts (wdB m) s).2).2 else (ks, s)
/-- One alone is itself. -/
def aloneD (op : Int) : List Ex → Ex
  | [x] => x
  | ks => .mk op 0 ⟨#[]⟩ ks
def sevD (ts : List Tk) (one : Pst → Ex × Pst) (op : Int) (m : ByteArray) (s : Pst) : Ex × Pst :=
  (aloneD op (sevL ts one m (ts.length + 1) [(one s).1] (one s).2).1, (sevL ts one m (ts.length + 1) [(one s).1] (one s).2).2)
abbrev wAnd : ByteArray := ⟨#[97, 110, 100]⟩
abbrev wOr : ByteArray := ⟨#[111, 114]⟩
abbrev wAfter : ByteArray := ⟨#[97, 102, 116, 101, 114]⟩
/-- Days after a milestone, or a condition in brackets. -/
def factD (ts : List Tk) (cond : Pst → Ex × Pst) (s : Pst) : Ex × Pst :=
  if isT ts (kindB 4) s then
    ((cond (takeT ts (kindB 4) s).2).1, (takeT ts (kindB 5) (cond (takeT ts (kindB 4) s).2).2).2)
  else
    (.mk 1 (takeT ts (kindB 3) s).1.n (takeT ts mileB (takeT ts (wdB wAfter) (takeT ts (kindB 3) s).2).2).1.text [], (takeT ts mileB (takeT ts (wdB wAfter) (takeT ts (kindB 3) s).2).2).2)
/-- A condition; so many brackets may still be opened, and one. -/
def condD (ts : List Tk) : Nat → Pst → Ex × Pst
  | 0, s => (Ex.none_, failD 2 (burnD s))
  | K + 1, s => if (burnD s).err ≠ 0 then (Ex.none_, burnD s) else sevD ts (sevD ts (factD ts (condD ts K)) 3 wAnd) 2 wOr (burnD s)
abbrev wClass : ByteArray := ⟨#[99, 108, 97, 115, 115]⟩
abbrev wDefault : ByteArray := ⟨#[100, 101, 102, 97, 117, 108, 116]⟩
abbrev wKeep : ByteArray := ⟨#[107, 101, 101, 112]⟩
abbrev wThen : ByteArray := ⟨#[116, 104, 101, 110]⟩
abbrev wDestroy : ByteArray := ⟨#[100, 101, 115, 116, 114, 111, 121]⟩
abbrev wReview : ByteArray := ⟨#[114, 101, 118, 105, 101, 119]⟩
def classD (ts : List Tk) (s : Pst) : ByteArray × Pst :=
  if isT ts (wdB wClass) s then ((takeT ts (kindB 2) (takeT ts (wdB wClass) s).2).1.text, (takeT ts (kindB 2) (takeT ts (wdB wClass) s).2).2)
  else (⟨#[]⟩, (takeT ts (wdB wDefault) s).2)
def actD (ts : List Tk) (s : Pst) : Int × Pst :=
  if isT ts (wdB wDestroy) s then (1, (takeT ts (wdB wDestroy) s).2) else
  if isT ts (wdB wReview) s then (2, (takeT ts (wdB wReview) s).2) else (3, (takeT ts (wdB wKeep) s).2)
/-- A rule. -/
def ruleD (ts : List Tk) (s : Pst) : Ru × Pst :=
  let c := classD ts s
  let x := condD ts 8 (takeT ts (wdB wKeep) c.2).2
  let a := actD ts (takeT ts (wdB wThen) x.2).2
  (⟨c.1, x.1, a.1⟩, (takeT ts (kindB 6) a.2).2)
def rulesD (ts : List Tk) : Nat → List Ru → Pst → List Ru × Pst
  | 0, out, s => (out, s)
  | n + 1, out, s => if s.err = 0 ∧ s.pos < ts.length then rulesD ts n (out ++ [(ruleD ts s).1]) (ruleD ts s).2 else (out, s)
def hereD (ts : List Tk) (len : Nat) (s : Pst) : Int := match ts[s.pos]? with | some t => t.at_ | none => (len : Int)
/-- A text's rules, where that ended, the fuel that is left, and the error. -/
def readD (l : List UInt8) (fuel : Int) : List Ru × Int × Int × Int :=
  if (lexAll l).2.2 ≠ 0 then ([], ((lexAll l).2.1 : Int), 0, (lexAll l).2.2) else
  let r := rulesD (lexAll l).1 ((lexAll l).1.length + 1) [] ⟨0, fuel, 0⟩
  if r.2.err ≠ 0 then ([], hereD (lexAll l).1 l.length r.2, 0, r.2.err) else
  if checkD r.1 ≠ 0 then ([], 0, 0, checkD r.1) else (r.1, (l.length : Int), r.2.fuel, 0)

/-! What each makes of where the reader stands: it goes on only, and an error stays. -/
/-- (it goes on) -/
structure Goes (s t : Pst) : Prop where
  pos : s.pos ≤ t.pos
  fuel : t.fuel ≤ s.fuel
  err : s.err ≠ 0 → t = s
  nn : 0 ≤ s.fuel → 0 ≤ t.fuel
theorem Goes.refl (s : Pst) : Goes s s := ⟨Nat.le_refl _, Int.le_refl _, fun _ => rfl, id⟩
theorem Goes.trans {s t u : Pst} (h : Goes s t) (k : Goes t u) : Goes s u :=
  ⟨Nat.le_trans h.pos k.pos, Int.le_trans k.fuel h.fuel, fun e => by rw [k.err (by rw [h.err e]; exact e), h.err e], fun x => k.nn (h.nn x)⟩
theorem Goes.ok {s t : Pst} (h : Goes s t) (ht : t.err = 0) : s.err = 0 := by
  by_cases e : s.err = 0
  · exact e
  · rw [h.err e] at ht; exact ht
theorem burn_goes (s : Pst) : Goes s (burnD s) := by
  unfold burnD
  split
  · rename_i h
    split
    · exact ⟨Nat.le_refl _, Int.le_refl _, fun e => absurd h e, id⟩
    · exact ⟨Nat.le_refl _, by show s.fuel - 1 ≤ s.fuel; omega, fun e => absurd h e, fun _ => by show 0 ≤ s.fuel - 1; omega⟩
  · exact Goes.refl s
theorem fail_goes (e : Int) (s : Pst) : Goes s (failD e s) := by
  unfold failD
  split
  · rename_i h
    exact ⟨Nat.le_refl _, Int.le_refl _, fun e => absurd h e, id⟩
  · exact Goes.refl s
theorem burn_pos (s : Pst) : (burnD s).pos = s.pos := by
  unfold burnD
  split
  · split <;> rfl
  · rfl
theorem take_goes (ts : List Tk) (p : Tk → Bool) (s : Pst) : Goes s (takeT ts p s).2 := by
  have hb := burn_goes s
  have hp := burn_pos s
  unfold takeT
  split
  · exact hb
  · rename_i h
    have h0 : (burnD s).err = 0 := by omega
    have hs := hb.ok h0
    split
    · exact ⟨hb.pos, hb.fuel, fun e => absurd hs e, hb.nn⟩
    · split
      · exact ⟨Nat.le_succ _, hb.fuel, fun e => absurd hs e, hb.nn⟩
      · exact ⟨hb.pos, hb.fuel, fun e => absurd hs e, hb.nn⟩
/-- A word that was ahead is taken, or there is no fuel. -/
theorem take_is {ts : List Tk} {p : Tk → Bool} {s : Pst} (h : isT ts p s = true) (ho : (takeT ts p s).2.err = 0) : (takeT ts p s).2.pos = s.pos + 1 ∧ s.pos < ts.length := by
  unfold isT at h
  rw [Bool.and_eq_true] at h
  obtain ⟨h1, h2⟩ := h
  revert ho
  unfold takeT
  split
  · rename_i hn; intro e; exact absurd e hn
  · cases ht : ts[s.pos]? with
    | none => rw [ht] at h2; cases h2
    | some t =>
      rw [ht] at h2
      dsimp only at h2 ⊢
      rw [if_pos h2]
      exact fun _ => ⟨rfl, (List.getElem?_eq_some_iff.1 ht).1⟩
theorem sevL_goes {ts : List Tk} {one : Pst → Ex × Pst} (h1 : ∀ s, Goes s (one s).2) (m : ByteArray) : ∀ (n : Nat) (ks : List Ex) (s : Pst), Goes s (sevL ts one m n ks s).2
  | 0, _, s => Goes.refl s
  | n + 1, ks, s => by
    rw [sevL]
    split
    · exact ((take_goes ts _ s).trans (h1 _)).trans (sevL_goes h1 m n _ _)
    · exact Goes.refl s
theorem sevD_goes {ts : List Tk} {one : Pst → Ex × Pst} (h1 : ∀ s, Goes s (one s).2) (op : Int) (m : ByteArray) (s : Pst) : Goes s (sevD ts one op m s).2 :=
  (h1 s).trans (sevL_goes h1 m _ _ _)
theorem factD_goes {ts : List Tk} {cond : Pst → Ex × Pst} (h1 : ∀ s, Goes s (cond s).2) (s : Pst) : Goes s (factD ts cond s).2 := by
  unfold factD
  split
  · exact ((take_goes ts _ s).trans (h1 _)).trans (take_goes ts _ _)
  · exact ((take_goes ts _ s).trans (take_goes ts _ _)).trans (take_goes ts _ _)
theorem condD_goes (ts : List Tk) : ∀ (K : Nat) (s : Pst), Goes s (condD ts K s).2
  | 0, s => (burn_goes s).trans (fail_goes 2 _)
  | K + 1, s => by
    rw [condD]
    split
    · exact burn_goes s
    · exact (burn_goes s).trans (sevD_goes (sevD_goes (factD_goes (condD_goes ts K)) 3 wAnd) 2 wOr _)
theorem classD_goes (ts : List Tk) (s : Pst) : Goes s (classD ts s).2 := by
  unfold classD
  split
  · exact (take_goes ts _ s).trans (take_goes ts _ _)
  · exact take_goes ts _ s
theorem actD_goes (ts : List Tk) (s : Pst) : Goes s (actD ts s).2 := by
  unfold actD
  split
  · exact take_goes ts _ s
  · split
    · exact take_goes ts _ s
    · exact take_goes ts _ s
theorem ruleD_goes (ts : List Tk) (s : Pst) : Goes s (ruleD ts s).2 :=
  ((((classD_goes ts s).trans (take_goes ts _ _)).trans (condD_goes ts 8 _)).trans (take_goes ts _ _)).trans ((actD_goes ts _).trans (take_goes ts _ _))
theorem rulesD_goes (ts : List Tk) : ∀ (n : Nat) (out : List Ru) (s : Pst), Goes s (rulesD ts n out s).2
  | 0, _, s => Goes.refl s
  | n + 1, out, s => by
    rw [rulesD]
    split
    · exact (ruleD_goes ts s).trans (rulesD_goes ts n _ _)
    · exact Goes.refl s
/-- A loop's way: what it comes to does not turn. -/
theorem sevL_step {ts : List Tk} {one : Pst → Ex × Pst} (h1 : ∀ s, Goes s (one s).2) {m : ByteArray} {n : Nat} {ks : List Ex} {s : Pst} (h : isT ts (wdB m) s = true) (hn : s.err = 0 → ts.length < s.pos + n) :
    ∃ n', n = n' + 1 ∧ sevL ts one m n ks s = sevL ts one m n' (ks ++ [(one (takeT ts (wdB m) s).2).1]) (one (takeT ts (wdB m) s).2).2 ∧ ((one (takeT ts (wdB m) s).2).2.err = 0 → ts.length < (one (takeT ts (wdB m) s).2).2.pos + n') := by
  have h0 : s.err = 0 := by
    unfold isT at h
    rw [Bool.and_eq_true] at h
    exact of_decide_eq_true h.1
  have hlt : s.pos < ts.length := by
    have h' := h
    unfold isT at h'
    rw [Bool.and_eq_true] at h'
    cases ht : ts[s.pos]? with
    | none => rw [ht] at h'; exact absurd h'.2 (by simp)
    | some t => exact (List.getElem?_eq_some_iff.1 ht).1
  have := hn h0
  match n, this with
  | 0, this => omega
  | n' + 1, this =>
    refine ⟨n', rfl, by rw [sevL, if_pos h], fun e => ?_⟩
    have g := h1 (takeT ts (wdB m) s).2
    have e1 := g.ok e
    have e2 := (take_is h e1).1
    have e3 := g.pos
    omega
theorem sevL_end {ts : List Tk} {one : Pst → Ex × Pst} {m : ByteArray} {n : Nat} {ks : List Ex} {s : Pst} (h : isT ts (wdB m) s = false) : sevL ts one m n ks s = (ks, s) := by
  cases n with
  | zero => rfl
  | succ n => rw [sevL, h, if_neg (by simp)]
end Go.Proofs.YtogpmihepfnoaaaGreatDoor

namespace Go.Proofs.YtogpmihepfnoaaaGreatDoor
open Go

/-! With so much more fuel all is the same, or there was not enough. -/
def shP (d : Int) (s : Pst) : Pst := { s with fuel := s.fuel + d }
def Rel {α : Type} (d : Int) (a b : α × Pst) : Prop := (a.1 = b.1 ∧ b.2 = shP d a.2) ∨ (a.2.err = 14 ∧ b.2.fuel < d)
def RelS (d : Int) (s t : Pst) : Prop := t = shP d s ∨ (s.err = 14 ∧ t.fuel < d)
theorem Rel.st {α : Type} {d : Int} {a b : α × Pst} (h : Rel d a b) : RelS d a.2 b.2 := h.imp (fun x => x.2) id
/-- What follows. -/
theorem RelS.next {α : Type} {d : Int} {s t : Pst} {G : Pst → α × Pst} (h : RelS d s t) (hg : ∀ s, Goes s (G s).2) (hr : ∀ s, Rel d (G s) (G (shP d s))) : Rel d (G s) (G t) := by
  rcases h with rfl | ⟨h1, h2⟩
  · exact hr s
  · refine .inr ⟨?_, ?_⟩
    · rw [(hg s).err (by omega)]; exact h1
    · have := (hg t).fuel; omega
theorem burn_rel {d : Int} (hd : 0 ≤ d) (s : Pst) : RelS d (burnD s) (burnD (shP d s)) := by
  obtain ⟨p, f, e⟩ := s
  unfold burnD shP
  dsimp only
  by_cases he : e = 0
  · rw [if_pos he, if_pos he]
    by_cases h1 : f < 1
    · rw [if_pos h1]
      by_cases h2 : f + d < 1
      · rw [if_pos h2]; exact .inl rfl
      · rw [if_neg h2]; exact .inr ⟨rfl, by show f + d - 1 < d; omega⟩
    · rw [if_neg h1, if_neg (by omega)]
      refine .inl (Pst.ext_ rfl ?_ rfl)
      show f + d - 1 = f - 1 + d
      omega
  · rw [if_neg he, if_neg he]; exact .inl rfl
theorem fail_rel {d : Int} {e : Int} {s t : Pst} (h : RelS d s t) : RelS d (failD e s) (failD e t) := by
  rcases h with rfl | ⟨h1, h2⟩
  · refine .inl ?_
    unfold failD shP
    dsimp only
    split <;> rfl
  · refine .inr ⟨?_, ?_⟩
    · unfold failD; rw [if_neg (by omega)]; exact h1
    · have := (fail_goes e t).fuel; omega
theorem take_rel {d : Int} (hd : 0 ≤ d) (ts : List Tk) (p : Tk → Bool) (s : Pst) : Rel d (takeT ts p s) (takeT ts p (shP d s)) := by
  have h := burn_rel hd s
  have hg := burn_goes (shP d s)
  rcases h with h | ⟨h1, h2⟩
  · have hf : (burnD (shP d s)).err = (burnD s).err := by rw [h]; rfl
    unfold takeT
    rw [hf, h, show (shP d s).pos = s.pos from rfl]
    split
    · exact .inl ⟨rfl, rfl⟩
    · cases ts[s.pos]? with
      | none => exact .inl ⟨rfl, rfl⟩
      | some t =>
        dsimp only [shP]
        split
        · exact .inl ⟨rfl, rfl⟩
        · exact .inl ⟨rfl, rfl⟩
  · refine .inr ⟨?_, ?_⟩
    · unfold takeT
      rw [if_pos (by omega)]
      exact h1
    · unfold takeT
      split
      · exact h2
      · split
        · exact h2
        · split
          · exact h2
          · exact h2
theorem is_sh (d : Int) (ts : List Tk) (p : Tk → Bool) (s : Pst) : isT ts p (shP d s) = isT ts p s := rfl
/-- A word ahead is as it was, or it does not matter. -/
theorem sevL_rel {d : Int} (hd : 0 ≤ d) {ts : List Tk} {one : Pst → Ex × Pst} (h1 : ∀ s, Goes s (one s).2) (hr : ∀ s, Rel d (one s) (one (shP d s))) (m : ByteArray) : ∀ (n : Nat) (ks : List Ex) (s : Pst), Rel d (sevL ts one m n ks s) (sevL ts one m n ks (shP d s))
  | 0, _, _ => .inl ⟨rfl, rfl⟩
  | n + 1, ks, s => by
    rw [sevL, sevL, is_sh]
    split
    · have h2 := (take_rel hd ts (wdB m) s).st.next h1 hr
      rcases h2 with ⟨e1, e2⟩ | ⟨e1, e2⟩
      · rw [e2, ← e1]
        exact sevL_rel hd h1 hr m n _ _
      · refine .inr ⟨?_, ?_⟩
        · rw [(sevL_goes h1 m n _ _).err (by omega)]; exact e1
        · have := (sevL_goes (ts := ts) h1 m n (ks ++ [(one (takeT ts (wdB m) (shP d s)).2).1]) (one (takeT ts (wdB m) (shP d s)).2).2).fuel
          omega
    · exact .inl ⟨rfl, rfl⟩
theorem sevD_rel {d : Int} (hd : 0 ≤ d) {ts : List Tk} {one : Pst → Ex × Pst} (h1 : ∀ s, Goes s (one s).2) (hr : ∀ s, Rel d (one s) (one (shP d s))) (op : Int) (m : ByteArray) (s : Pst) : Rel d (sevD ts one op m s) (sevD ts one op m (shP d s)) := by
  unfold sevD
  rcases hr s with ⟨e1, e2⟩ | ⟨e1, e2⟩
  · rw [e2, ← e1]
    rcases sevL_rel hd h1 hr m (ts.length + 1) [(one s).1] (one s).2 with ⟨f1, f2⟩ | ⟨f1, f2⟩
    · exact .inl ⟨by rw [f1], f2⟩
    · exact .inr ⟨f1, f2⟩
  · refine .inr ⟨?_, ?_⟩
    · show (sevL ts one m (ts.length + 1) [(one s).1] (one s).2).2.err = 14
      rw [(sevL_goes h1 m _ _ _).err (by omega)]; exact e1
    · have := (sevL_goes (ts := ts) h1 m (ts.length + 1) [(one (shP d s)).1] (one (shP d s)).2).fuel
      show (sevL ts one m (ts.length + 1) [(one (shP d s)).1] (one (shP d s)).2).2.fuel < d
      omega
theorem Rel.late {α β : Type} {d : Int} {a b : α × Pst} {G : Pst → β × Pst} (h1 : a.2.err = 14) (h2 : b.2.fuel < d) (hg : ∀ s, Goes s (G s).2) : (G a.2).2.err = 14 ∧ (G b.2).2.fuel < d := by
  refine ⟨?_, ?_⟩
  · rw [(hg _).err (by omega)]; exact h1
  · have := (hg b.2).fuel; omega
theorem factD_rel {d : Int} (hd : 0 ≤ d) {ts : List Tk} {cond : Pst → Ex × Pst} (h1 : ∀ s, Goes s (cond s).2) (hr : ∀ s, Rel d (cond s) (cond (shP d s))) (s : Pst) : Rel d (factD ts cond s) (factD ts cond (shP d s)) := by
  have hT := fun p s => take_rel hd ts p s
  have hG := fun p s => take_goes ts p s
  unfold factD
  rw [is_sh]
  split
  · rcases (hT (kindB 4) s).st.next h1 hr with ⟨e1, e2⟩ | ⟨e1, e2⟩
    · rw [e2, ← e1]
      exact (hT (kindB 5) _).imp (fun x => ⟨rfl, x.2⟩) id
    · have e9 := Rel.late e1 e2 (hG (kindB 5))
      exact .inr e9
  · rcases hT (kindB 3) s with ⟨e1, e2⟩ | ⟨e1, e2⟩
    · rw [e2, ← e1]
      rcases (hT (wdB wAfter) (takeT ts (kindB 3) s).2).st.next (hG mileB) (hT mileB) with ⟨f1, f2⟩ | ⟨f1, f2⟩
      · exact .inl ⟨by rw [f1], f2⟩
      · exact .inr ⟨f1, f2⟩
    · have e3 := Rel.late e1 e2 (hG (wdB wAfter))
      have e9 := Rel.late e3.1 e3.2 (hG mileB)
      exact .inr e9
theorem condD_rel {d : Int} (hd : 0 ≤ d) (ts : List Tk) : ∀ (K : Nat) (s : Pst), Rel d (condD ts K s) (condD ts K (shP d s))
  | 0, s => (fail_rel (burn_rel hd s)).imp (fun x => ⟨rfl, x⟩) id
  | K + 1, s => by
    have ih := condD_rel hd ts K
    have hg := factD_goes (ts := ts) (condD_goes ts K)
    have hf := factD_rel (ts := ts) hd (condD_goes ts K) ih
    have hG := sevD_goes (ts := ts) (sevD_goes (ts := ts) hg 3 wAnd) 2 wOr
    have hR := sevD_rel (ts := ts) hd (sevD_goes (ts := ts) hg 3 wAnd) (sevD_rel hd hg hf 3 wAnd) 2 wOr
    rw [condD, condD]
    rcases burn_rel hd s with h | ⟨h1, h2⟩
    · rw [h]
      show Rel d _ (if (burnD s).err ≠ 0 then _ else _)
      split
      · exact .inl ⟨rfl, rfl⟩
      · exact hR _
    · rw [if_pos (by omega)]
      split
      · exact .inr ⟨h1, h2⟩
      · refine .inr ⟨h1, ?_⟩
        have := (hG (burnD (shP d s))).fuel
        omega
theorem classD_rel {d : Int} (hd : 0 ≤ d) (ts : List Tk) (s : Pst) : Rel d (classD ts s) (classD ts (shP d s)) := by
  have hT := fun p s => take_rel hd ts p s
  have hG := fun p s => take_goes ts p s
  unfold classD
  rw [is_sh]
  split
  · rcases (hT (wdB wClass) s).st.next (hG (kindB 2)) (hT (kindB 2)) with ⟨f1, f2⟩ | ⟨f1, f2⟩
    · exact .inl ⟨by rw [f1], f2⟩
    · exact .inr ⟨f1, f2⟩
  · exact (hT _ s).imp (fun x => ⟨rfl, x.2⟩) id
theorem actD_rel {d : Int} (hd : 0 ≤ d) (ts : List Tk) (s : Pst) : Rel d (actD ts s) (actD ts (shP d s)) := by
  have hT := fun p s => take_rel hd ts p s
  unfold actD
  rw [is_sh, is_sh]
  split
  · exact (hT _ s).imp (fun x => ⟨rfl, x.2⟩) id
  · split
    · exact (hT _ s).imp (fun x => ⟨rfl, x.2⟩) id
    · exact (hT _ s).imp (fun x => ⟨rfl, x.2⟩) id
theorem ruleD_rel {d : Int} (hd : 0 ≤ d) (ts : List Tk) (s : Pst) : Rel d (ruleD ts s) (ruleD ts (shP d s)) := by
  have hT := fun p s => take_rel hd ts p s
  have hG := fun p s => take_goes ts p s
  have gC := condD_goes ts 8
  have gA := actD_goes ts
  unfold ruleD
  dsimp only
  rcases classD_rel hd ts s with ⟨a1, a2⟩ | ⟨a1, a2⟩
  · rw [a2, ← a1]
    rcases (hT (wdB wKeep) (classD ts s).2).st.next gC (condD_rel hd ts 8) with ⟨b1, b2⟩ | ⟨b1, b2⟩
    · rw [b2, ← b1]
      rcases (hT (wdB wThen) (condD ts 8 (takeT ts (wdB wKeep) (classD ts s).2).2).2).st.next gA (actD_rel hd ts) with ⟨c1, c2⟩ | ⟨c1, c2⟩
      · rw [c2, ← c1]
        exact (hT (kindB 6) _).imp (fun x => ⟨rfl, x.2⟩) id
      · have e9 := Rel.late c1 c2 (hG (kindB 6))
        exact .inr e9
    · have e1 := Rel.late b1 b2 (hG (wdB wThen))
      have e2 := Rel.late e1.1 e1.2 gA
      have e9 := Rel.late e2.1 e2.2 (hG (kindB 6))
      exact .inr e9
  · have e0 := Rel.late a1 a2 (hG (wdB wKeep))
    have e3 := Rel.late e0.1 e0.2 gC
    have e1 := Rel.late e3.1 e3.2 (hG (wdB wThen))
    have e2 := Rel.late e1.1 e1.2 gA
    have e9 := Rel.late e2.1 e2.2 (hG (kindB 6))
    exact .inr e9
theorem rulesD_rel {d : Int} (hd : 0 ≤ d) (ts : List Tk) : ∀ (n : Nat) (out : List Ru) (s : Pst), Rel d (rulesD ts n out s) (rulesD ts n out (shP d s))
  | 0, _, _ => .inl ⟨rfl, rfl⟩
  | n + 1, out, s => by
    rw [rulesD, rulesD]
    show Rel d _ (if s.err = 0 ∧ s.pos < ts.length then _ else _)
    split
    · rcases ruleD_rel hd ts s with ⟨e1, e2⟩ | ⟨e1, e2⟩
      · rw [e2, ← e1]
        exact rulesD_rel hd ts n _ _
      · refine .inr ⟨?_, ?_⟩
        · rw [(rulesD_goes ts n _ _).err (by omega)]; exact e1
        · have := (rulesD_goes ts n (out ++ [(ruleD ts (shP d s)).1]) (ruleD ts (shP d s)).2).fuel
          omega
    · exact .inl ⟨rfl, rfl⟩
end Go.Proofs.YtogpmihepfnoaaaGreatDoor

namespace Go.Proofs.YtogpmihepfnoaaaGreatDoor
open Go

/-- (what it uses, of a text of L words: each word gives two, where it does not fail) -/
structure Use (L : Nat) (c e : Int) (s t : Pst) : Prop where
  ok : t.err = 0 → s.fuel + 2 * s.pos + c ≤ t.fuel + 2 * t.pos
  no : s.err = 0 → t.err ≠ 0 → s.fuel + 2 * s.pos ≤ t.fuel + 2 * t.pos + e
  pos : s.pos ≤ L → t.pos ≤ L
  low : s.err ≠ 14 → t.err = 14 → t.fuel < 1
theorem Use.weak {L : Nat} {c e c' e' : Int} {s t : Pst} (h : Use L c e s t) (hc : c' ≤ c) (he : e ≤ e') : Use L c' e' s t :=
  ⟨fun x => by have := h.ok x; omega, fun x y => by have := h.no x y; omega, h.pos, h.low⟩
theorem Use.then {L : Nat} {c1 e1 c2 e2 c e : Int} {s m t : Pst} (h : Use L c1 e1 s m) (_ : Goes s m) (k : Use L c2 e2 m t) (gk : Goes m t) (h1 : e1 ≤ e) (h2 : e2 - c1 ≤ e) (h3 : c ≤ c1 + c2) : Use L c e s t := by
  refine ⟨fun x => ?_, fun x y => ?_, fun x => k.pos (h.pos x), fun x y => ?_⟩
  · have := k.ok x
    have := h.ok (gk.ok x)
    omega
  · by_cases hm : m.err = 0
    · have := k.no hm y
      have := h.ok hm
      omega
    · rw [gk.err hm]
      have := h.no x hm
      omega
  · by_cases hm : m.err = 14
    · have := h.low x hm
      rw [gk.err (by omega)]
      exact this
    · exact k.low hm y
theorem burn_use (L : Nat) (s : Pst) : Use L (-1) 0 s (burnD s) := by
  obtain ⟨p, f, e⟩ := s
  unfold burnD
  dsimp only
  by_cases he : e = 0
  · rw [if_pos he]
    by_cases h1 : f < 1
    · rw [if_pos h1]
      exact ⟨fun x => (by cases x), fun _ _ => (by dsimp only; omega), id, fun _ _ => h1⟩
    · rw [if_neg h1]
      refine ⟨fun _ => ?_, fun x y => absurd x y, id, fun x y => absurd y x⟩
      dsimp only
      omega
  · rw [if_neg he]
    exact ⟨fun x => absurd x he, fun x => absurd x he, id, fun x y => absurd y x⟩
theorem take_use (ts : List Tk) (p : Tk → Bool) (s : Pst) : Use ts.length 1 1 s (takeT ts p s).2 := by
  have hb := burn_use ts.length s
  have hp := burn_pos s
  have hg := burn_goes s
  unfold takeT
  split
  · rename_i h
    show Use ts.length 1 1 s (burnD s)
    exact ⟨fun x => absurd x h, fun x y => (by have := hb.no x y; omega), hb.pos, hb.low⟩
  · rename_i h
    have h0 : (burnD s).err = 0 := by omega
    have h1 := hb.ok h0
    rw [hp] at h1
    have hbad : Use ts.length 1 1 s { burnD s with err := 2 } := ⟨fun x => (by cases x), fun _ _ => (by dsimp only; rw [hp]; omega), hb.pos, fun _ y => (by cases y)⟩
    cases ht : ts[s.pos]? with
    | none => exact hbad
    | some t =>
      dsimp only
      split
      · refine ⟨fun _ => ?_, fun _ y => absurd h0 y, fun _ => ?_, fun _ y => ?_⟩
        · dsimp only; omega
        · exact (List.getElem?_eq_some_iff.1 ht).1
        · dsimp only at y; omega
      · exact hbad
theorem sevL_use {ts : List Tk} {one : Pst → Ex × Pst} (h1 : ∀ s, Goes s (one s).2) (hu : ∀ s, Use ts.length 1 1 s (one s).2) (m : ByteArray) : ∀ (n : Nat) (ks : List Ex) (s : Pst), Use ts.length 0 1 s (sevL ts one m n ks s).2
  | 0, _, s => ⟨fun _ => by show s.fuel + 2 * s.pos + 0 ≤ s.fuel + 2 * s.pos; omega, fun x y => absurd x y, id, fun x y => absurd y x⟩
  | n + 1, ks, s => by
    rw [sevL]
    split
    · exact ((take_use ts (wdB m) s).then (take_goes ts _ s) (hu _) (h1 _) (Int.le_refl 1) (by omega) (Int.le_refl 2)).then ((take_goes ts _ s).trans (h1 _)) (sevL_use h1 hu m n _ _) (sevL_goes h1 m n _ _) (Int.le_refl 1) (by omega) (by omega)
    · exact ⟨fun _ => by show s.fuel + 2 * s.pos + 0 ≤ s.fuel + 2 * s.pos; omega, fun x y => absurd x y, id, fun x y => absurd y x⟩
theorem sevD_use {ts : List Tk} {one : Pst → Ex × Pst} (h1 : ∀ s, Goes s (one s).2) (hu : ∀ s, Use ts.length 1 1 s (one s).2) (op : Int) (m : ByteArray) (s : Pst) : Use ts.length 1 1 s (sevD ts one op m s).2 :=
  (hu s).then (h1 s) (sevL_use h1 hu m _ _ _) (sevL_goes h1 m _ _ _) (Int.le_refl 1) (by omega) (by omega)
theorem factD_use {ts : List Tk} {cond : Pst → Ex × Pst} (h1 : ∀ s, Goes s (cond s).2) (hu : ∀ s, Use ts.length 0 2 s (cond s).2) (s : Pst) : Use ts.length 1 1 s (factD ts cond s).2 := by
  have hT := fun p s => take_use ts p s
  have hG := fun p s => take_goes ts p s
  unfold factD
  split
  · exact ((hT _ s).then (hG _ s) (hu _) (h1 _) (Int.le_refl 1) (by omega) (c := 1) (by omega)).then ((hG _ s).trans (h1 _)) (hT _ _) (hG _ _) (Int.le_refl 1) (by omega) (by omega)
  · exact ((hT _ s).then (hG _ s) (hT _ _) (hG _ _) (Int.le_refl 1) (by omega) (c := 2) (by omega)).then ((hG _ s).trans (hG _ _)) (hT _ _) (hG _ _) (Int.le_refl 1) (by omega) (by omega)
theorem condD_use (ts : List Tk) : ∀ (K : Nat) (s : Pst), Use ts.length 0 2 s (condD ts K s).2
  | 0, s => by
    have hb := burn_use ts.length s
    show Use ts.length 0 2 s (failD 2 (burnD s))
    unfold failD
    split
    · rename_i h0
      have h1 := hb.ok h0
      exact ⟨fun x => (by cases x), fun _ _ => (by dsimp only; omega), hb.pos, fun _ y => (by cases y)⟩
    · rename_i h
      exact ⟨fun x => absurd x h, fun x y => (by have := hb.no x y; omega), hb.pos, hb.low⟩
  | K + 1, s => by
    have hb := burn_use ts.length s
    have hg := factD_goes (ts := ts) (condD_goes ts K)
    have hf := factD_use (ts := ts) (condD_goes ts K) (condD_use ts K)
    rw [condD]
    split
    · rename_i h
      show Use ts.length 0 2 s (burnD s)
      exact ⟨fun x => absurd x h, fun x y => (by have := hb.no x y; omega), hb.pos, hb.low⟩
    · exact hb.then (burn_goes s) (sevD_use (sevD_goes (ts := ts) hg 3 wAnd) (sevD_use hg hf 3 wAnd) 2 wOr _) (sevD_goes (sevD_goes (ts := ts) hg 3 wAnd) 2 wOr _) (by omega) (by omega) (by omega)
theorem classD_use (ts : List Tk) (s : Pst) : Use ts.length 1 1 s (classD ts s).2 := by
  unfold classD
  split
  · exact (take_use ts _ s).then (take_goes ts _ s) (take_use ts _ _) (take_goes ts _ _) (Int.le_refl 1) (by omega) (by omega)
  · exact take_use ts _ s
theorem actD_use (ts : List Tk) (s : Pst) : Use ts.length 1 1 s (actD ts s).2 := by
  unfold actD
  split
  · exact take_use ts _ s
  · split
    · exact take_use ts _ s
    · exact take_use ts _ s
theorem ruleD_use (ts : List Tk) (s : Pst) : Use ts.length 1 1 s (ruleD ts s).2 := by
  have hT := fun p s => take_use ts p s
  have hG := fun p s => take_goes ts p s
  have g1 := classD_goes ts s
  have u2 := (classD_use ts s).then g1 (hT (wdB wKeep) _) (hG (wdB wKeep) _) (Int.le_refl 1) (by omega) (Int.le_refl 2)
  have g2 := g1.trans (hG (wdB wKeep) _)
  have u3 := u2.then g2 (condD_use ts 8 _) (condD_goes ts 8 _) (Int.le_refl 1) (by omega) (Int.le_refl 2)
  have g3 := g2.trans (condD_goes ts 8 _)
  have u4 := u3.then g3 (hT (wdB wThen) _) (hG (wdB wThen) _) (Int.le_refl 1) (by omega) (Int.le_refl 3)
  have g4 := g3.trans (hG (wdB wThen) _)
  have u5 := u4.then g4 (actD_use ts _) (actD_goes ts _) (Int.le_refl 1) (by omega) (Int.le_refl 4)
  exact u5.then (g4.trans (actD_goes ts _)) (hT (kindB 6) _) (hG (kindB 6) _) (Int.le_refl 1) (by omega) (by omega)
theorem rulesD_use (ts : List Tk) : ∀ (n : Nat) (out : List Ru) (s : Pst), Use ts.length 0 1 s (rulesD ts n out s).2
  | 0, _, s => ⟨fun _ => by show s.fuel + 2 * s.pos + 0 ≤ s.fuel + 2 * s.pos; omega, fun x y => absurd x y, id, fun x y => absurd y x⟩
  | n + 1, out, s => by
    rw [rulesD]
    split
    · exact (ruleD_use ts s).then (ruleD_goes ts s) (rulesD_use ts n _ _) (rulesD_goes ts n _ _) (Int.le_refl 1) (by omega) (by omega)
    · exact ⟨fun _ => by show s.fuel + 2 * s.pos + 0 ≤ s.fuel + 2 * s.pos; omega, fun x y => absurd x y, id, fun x y => absurd y x⟩
/-! A text's reading, with this fuel and that. -/
abbrev runP (ts : List Tk) (fuel : Int) : List Ru × Pst := rulesD ts (ts.length + 1) [] ⟨0, fuel, 0⟩
/-- What is left, at least. -/
theorem run_left (ts : List Tk) (fuel : Int) : fuel - 2 * ts.length - 1 ≤ (runP ts fuel).2.fuel := by
  have h : Use ts.length 0 1 ⟨0, fuel, 0⟩ (runP ts fuel).2 := rulesD_use ts (ts.length + 1) [] ⟨0, fuel, 0⟩
  have hp := h.pos (Nat.zero_le _)
  by_cases he : (runP ts fuel).2.err = 0
  · have := h.ok he
    dsimp only at this hp
    omega
  · have := h.no rfl he
    dsimp only at this hp
    omega
theorem run_enough {ts : List Tk} {fuel : Int} (h : 2 * ts.length + 2 ≤ fuel) : (runP ts fuel).2.err ≠ 14 := fun e => by
  have h0 : Use ts.length 0 1 ⟨0, fuel, 0⟩ (runP ts fuel).2 := rulesD_use ts (ts.length + 1) [] ⟨0, fuel, 0⟩
  have h1 := h0.low (by simp) e
  have h2 := run_left ts fuel
  omega
theorem run_rel (ts : List Tk) (fuel : Int) {d : Int} (hd : 0 ≤ d) : Rel d (runP ts fuel) (runP ts (fuel + d)) := rulesD_rel hd ts _ [] ⟨0, fuel, 0⟩
/-- With less it is the same, if so much is left. -/
theorem run_down {ts : List Tk} {fuel d : Int} (hd : 0 ≤ d) (h : d ≤ (runP ts (fuel + d)).2.fuel) : (runP ts fuel).1 = (runP ts (fuel + d)).1 ∧ (runP ts (fuel + d)).2 = shP d (runP ts fuel).2 := by
  rcases run_rel ts fuel hd with x | ⟨_, x⟩
  · exact x
  · omega
/-- With more it is the same, if there was enough. -/
theorem run_up {ts : List Tk} {fuel d : Int} (hd : 0 ≤ d) (h : (runP ts fuel).2.err ≠ 14) : (runP ts fuel).1 = (runP ts (fuel + d)).1 ∧ (runP ts (fuel + d)).2 = shP d (runP ts fuel).2 := by
  rcases run_rel ts fuel hd with x | ⟨x, _⟩
  · exact x
  · exact absurd x h
/-- With as much as it costs, or more, it is the same; with less there is not enough. -/
theorem run_cost {ts : List Tk} {M L : Int} (h0 : (runP ts M).2.err = 0) (hL : (runP ts M).2.fuel = L) (hn : 0 ≤ L) :
    (∀ more, 0 ≤ more → (runP ts (M - L + more)).1 = (runP ts M).1 ∧ (runP ts (M - L + more)).2.err = 0) ∧ ∀ less, 1 ≤ less → less ≤ M - L → (runP ts (M - L - less)).2.err = 14 := by
  have hd := run_down (ts := ts) (fuel := M - L) (d := L) hn (by rw [show M - L + L = M by omega]; omega)
  rw [show M - L + L = M by omega] at hd
  obtain ⟨d1, d2⟩ := hd
  have e0 : (runP ts (M - L)).2.err = 0 := by rw [d2] at h0; exact h0
  have f0 : (runP ts (M - L)).2.fuel = 0 := by
    rw [d2] at hL
    have : (runP ts (M - L)).2.fuel + L = L := hL
    omega
  refine ⟨fun more hm => ?_, fun less h1 h2 => ?_⟩
  · have hu := run_up (ts := ts) (fuel := M - L) hm (by omega)
    refine ⟨hu.1.symm.trans d1, ?_⟩
    rw [hu.2]
    exact e0
  · by_cases he : (runP ts (M - L - less)).2.err = 14
    · exact he
    · have hu := run_up (ts := ts) (fuel := M - L - less) (d := less) (by omega) he
      rw [show M - L - less + less = M - L by omega] at hu
      have h3 := (rulesD_goes ts (ts.length + 1) [] ⟨0, M - L - less, 0⟩).nn (by dsimp only; omega)
      have h4 : (runP ts (M - L)).2.fuel = (runP ts (M - L - less)).2.fuel + less := by rw [hu.2]; rfl
      have h5 : 0 ≤ (runP ts (M - L - less)).2.fuel := h3
      omega
end Go.Proofs.YtogpmihepfnoaaaGreatDoor

namespace Go.Proofs.YtogpmihepfnoaaaGreatDoor
open Go

/-- A word, wherever it stands. -/
structure Sh where
  kind : Int
  text : ByteArray
  n : Int
def Tk.sh (t : Tk) : Sh := ⟨t.kind, t.text, t.n⟩
/-- From a place on there are these words. -/
def AtS (ts : List Tk) (p : Nat) (l : List Sh) : Prop := ∃ r, (ts.drop p).map Tk.sh = l ++ r
theorem AtS.left {ts : List Tk} {p : Nat} {a b : List Sh} (h : AtS ts p (a ++ b)) : AtS ts p a := by
  obtain ⟨r, h⟩ := h
  exact ⟨b ++ r, by rw [h, List.append_assoc]⟩
theorem AtS.right {ts : List Tk} {p : Nat} {a b : List Sh} (h : AtS ts p (a ++ b)) : AtS ts (p + a.length) b := by
  obtain ⟨r, h⟩ := h
  refine ⟨r, ?_⟩
  rw [← List.drop_drop, List.map_drop, h, List.append_assoc, List.drop_left]
theorem AtS.head {ts : List Tk} {p : Nat} {s : Sh} {l : List Sh} (h : AtS ts p (s :: l)) : ∃ t, ts[p]? = some t ∧ t.sh = s := by
  obtain ⟨r, h⟩ := h
  cases hd : ts.drop p with
  | nil => rw [hd] at h; cases h
  | cons t q =>
    rw [hd] at h
    injection h with h1 h2
    refine ⟨t, ?_, h1⟩
    have := congrArg List.head? hd
    rwa [List.head?_drop] at this
theorem AtS.tail {ts : List Tk} {p : Nat} {s : Sh} {l : List Sh} (h : AtS ts p (s :: l)) : AtS ts (p + 1) l := AtS.right (a := [s]) h
/-- The next word is taken. -/
theorem take_at {ts : List Tk} {P : Tk → Bool} {p : Nat} {f : Int} {h : Sh} {l : List Sh} (ha : AtS ts p (h :: l)) (hf : 1 ≤ f) (hp : ∀ t : Tk, t.sh = h → P t = true) : ∃ t : Tk, t.sh = h ∧ takeT ts P ⟨p, f, 0⟩ = (t, ⟨p + 1, f - 1, 0⟩) := by
  obtain ⟨t, ht, hs⟩ := ha.head
  refine ⟨t, hs, ?_⟩
  have hb : burnD ⟨p, f, 0⟩ = ⟨p, f - 1, 0⟩ := by
    unfold burnD
    dsimp only
    rw [if_pos rfl, if_neg (by omega)]
  unfold takeT
  rw [hb, if_neg (by simp)]
  dsimp only
  rw [ht]
  dsimp only
  rw [if_pos (hp t hs)]
theorem is_at {ts : List Tk} {P : Tk → Bool} {p : Nat} {f : Int} {h : Sh} {l : List Sh} {b : Bool} (ha : AtS ts p (h :: l)) (hp : ∀ t : Tk, t.sh = h → P t = b) : isT ts P ⟨p, f, 0⟩ = b := by
  obtain ⟨t, ht, hs⟩ := ha.head
  unfold isT
  dsimp only
  rw [ht]
  simp [hp t hs]
/-- What stands with a word between, of words. -/
def shJoin (w : Sh) : List (List Sh) → List Sh
  | [] => []
  | [a] => a
  | a :: b :: r => a ++ w :: shJoin w (b :: r)
def wSh (m : ByteArray) : Sh := ⟨1, m, 0⟩
def opW (op : Int) : ByteArray := if op = 3 then wAnd else wOr
mutual
/-- A condition's words. -/
def shX : Ex → List Sh
  | .mk op days mile ks => if op = 1 then [⟨3, ba (textD days), days⟩, wSh wAfter, ⟨1, mile, 0⟩] else shJoin (wSh (opW op)) (shXL op ks)
def shXL (op : Int) : List Ex → List (List Sh)
  | [] => []
  | k :: ks => (if wrapB op k then ⟨4, ⟨#[40]⟩, 0⟩ :: (shX k ++ [⟨5, ⟨#[41]⟩, 0⟩]) else shX k) :: shXL op ks
end
def shP_ (op : Int) (k : Ex) : List Sh := if wrapB op k then ⟨4, ⟨#[40]⟩, 0⟩ :: (shX k ++ [⟨5, ⟨#[41]⟩, 0⟩]) else shX k
theorem shXL_map (op : Int) : ∀ ks : List Ex, shXL op ks = ks.map (shP_ op)
  | [] => by rw [shXL]; rfl
  | k :: ks => by rw [shXL, shXL_map op ks]; rfl
/-- A word does not come next. -/
def NoW (ts : List Tk) (m : ByteArray) (p : Nat) : Prop := ∀ f, isT ts (wdB m) ⟨p, f, 0⟩ = false
/-- What is read where these words stand, if what follows may follow. -/
def Back (ts : List Tk) (one : Pst → Ex × Pst) (Fol : Nat → Prop) (x : Ex) (l : List Sh) (c : Int) : Prop := ∀ (p : Nat) (f : Int), AtS ts p l → c ≤ f → Fol (p + l.length) → one ⟨p, f, 0⟩ = (x, ⟨p + l.length, f - c, 0⟩)
theorem wd_sh {m : ByteArray} {t : Tk} (h : t.sh = wSh m) : wdB m t = true := by
  obtain ⟨k, x, n, a⟩ := t
  unfold Tk.sh wSh at h
  injection h with h1 h2 h3
  dsimp only at h1 h2
  subst h1 h2
  simp [wdB]
/-- The words of those behind the first. -/
def shTail (m : ByteArray) (P : Ex → List Sh) (xs : List Ex) : List Sh := xs.flatMap fun x => wSh m :: P x
def fuTail (c : Ex → Int) : List Ex → Int
  | [] => 0
  | x :: xs => 1 + c x + fuTail c xs
theorem fuTail_nn {c : Ex → Int} : ∀ {xs : List Ex}, (∀ x ∈ xs, 0 ≤ c x) → 0 ≤ fuTail c xs
  | [], _ => Int.le_refl 0
  | x :: xs, h => by
    have h1 := h x (by simp)
    have h2 := fuTail_nn (xs := xs) fun y hy => h y (by simp [hy])
    rw [fuTail]
    omega
theorem sevL_back {ts : List Tk} {one : Pst → Ex × Pst} {Fol : Nat → Prop} {m : ByteArray} {P : Ex → List Sh} {c : Ex → Int} (hF : ∀ p l, AtS ts p (wSh m :: l) → Fol p) :
    ∀ (xs : List Ex) (n : Nat) (ks : List Ex) (p : Nat) (f : Int), (∀ x ∈ xs, Back ts one Fol x (P x) (c x) ∧ 0 ≤ c x) → xs.length ≤ n → AtS ts p (shTail m P xs) → fuTail c xs ≤ f → NoW ts m (p + (shTail m P xs).length) → Fol (p + (shTail m P xs).length) →
      sevL ts one m n ks ⟨p, f, 0⟩ = (ks ++ xs, ⟨p + (shTail m P xs).length, f - fuTail c xs, 0⟩)
  | [], n, ks, p, f, _, _, _, _, hN, _ => by
    have hN' : isT ts (wdB m) ⟨p, f, 0⟩ = false := by simpa [shTail] using hN f
    rw [sevL_end hN']
    simp [shTail, fuTail]
  | x :: xs, n, ks, p, f, hx, hn, ha, hf, hN, hFo => by
    obtain ⟨hb, hc⟩ := hx x (by simp)
    have hxs : ∀ y ∈ xs, Back ts one Fol y (P y) (c y) ∧ 0 ≤ c y := fun y hy => hx y (by simp [hy])
    have ht0 := fuTail_nn (c := c) (xs := xs) fun y hy => (hxs y hy).2
    rw [fuTail] at hf ⊢
    have e1 : shTail m P (x :: xs) = wSh m :: (P x ++ shTail m P xs) := by simp [shTail]
    rw [e1] at ha hN hFo ⊢
    match n, hn with
    | n + 1, hn =>
      rw [sevL, is_at ha (b := true) fun t h => wd_sh h, if_pos rfl]
      obtain ⟨t, _, e2⟩ := take_at (f := f) ha (by omega) fun t h => wd_sh h
      rw [e2]
      have ha1 := ha.tail
      have el : p + (wSh m :: (P x ++ shTail m P xs)).length = p + 1 + (P x).length + (shTail m P xs).length := by rw [List.length_cons, List.length_append]; omega
      rw [el] at hN hFo ⊢
      have hFx : Fol (p + 1 + (P x).length) := by
        cases xs with
        | nil => simpa [shTail] using hFo
        | cons y ys =>
          have h3 := ha1.right
          rw [show shTail m P (y :: ys) = wSh m :: (P y ++ shTail m P ys) by simp [shTail]] at h3
          exact hF _ _ h3
      rw [hb (p + 1) (f - 1) ha1.left (by omega) hFx]
      dsimp only
      rw [sevL_back hF xs n (ks ++ [x]) _ _ hxs (by simpa using hn) ha1.right (by omega) hN hFo]
      rw [List.append_assoc, show f - 1 - c x - fuTail c xs = f - (1 + c x + fuTail c xs) by omega]
      rfl
theorem AtS.len {ts : List Tk} {p : Nat} {l : List Sh} (h : AtS ts p l) : l.length ≤ ts.length := by
  obtain ⟨r, h⟩ := h
  have := congrArg List.length h
  rw [List.length_map, List.length_drop, List.length_append] at this
  omega
theorem shTail_len (m : ByteArray) (P : Ex → List Sh) : ∀ xs : List Ex, xs.length ≤ (shTail m P xs).length
  | [] => Nat.le_refl 0
  | x :: xs => by
    have := shTail_len m P xs
    rw [show shTail m P (x :: xs) = wSh m :: (P x ++ shTail m P xs) by simp [shTail], List.length_cons, List.length_cons, List.length_append]
    omega
/-- Several, with a word between. -/
theorem sevD_back {ts : List Tk} {one : Pst → Ex × Pst} {Fol : Nat → Prop} {m : ByteArray} {P : Ex → List Sh} {c : Ex → Int} (op : Int) (hF : ∀ p l, AtS ts p (wSh m :: l) → Fol p) (x : Ex) (xs : List Ex)
    (hx : ∀ y ∈ x :: xs, Back ts one Fol y (P y) (c y) ∧ 0 ≤ c y) : Back ts (sevD ts one op m) (fun p => NoW ts m p ∧ Fol p) (aloneD op (x :: xs)) (P x ++ shTail m P xs) (c x + fuTail c xs) := by
  intro p f ha hf hN
  obtain ⟨hN, hFo⟩ := hN
  have hn : xs.length ≤ ts.length := Nat.le_trans (shTail_len m P xs) ha.right.len
  obtain ⟨hb, hc⟩ := hx x (by simp)
  have hxs : ∀ y ∈ xs, Back ts one Fol y (P y) (c y) ∧ 0 ≤ c y := fun y hy => hx y (by simp [hy])
  have ht0 := fuTail_nn (c := c) (xs := xs) fun y hy => (hxs y hy).2
  rw [List.length_append, ← Nat.add_assoc] at hN hFo
  have hFx : Fol (p + (P x).length) := by
    cases xs with
    | nil => simpa [shTail] using hFo
    | cons y ys =>
      have h3 := ha.right
      rw [show shTail m P (y :: ys) = wSh m :: (P y ++ shTail m P ys) by simp [shTail]] at h3
      exact hF _ _ h3
  unfold sevD
  rw [hb p f ha.left (by omega) hFx]
  dsimp only
  rw [sevL_back hF xs (ts.length + 1) [x] _ _ hxs (by omega) ha.right (by omega) hN hFo]
  rw [List.length_append, ← Nat.add_assoc, show f - c x - fuTail c xs = f - (c x + fuTail c xs) by omega]
  rfl
mutual
/-- What fuel a condition's words cost, but for the one of the condition. -/
def fuX : Ex → Int
  | .mk op _ _ ks => if op = 1 then 3 else fuXL op ks - 1
def fuXL (op : Int) : List Ex → Int
  | [] => 0
  | k :: ks => (if wrapB op k then fuX k + 3 else fuX k) + 1 + fuXL op ks
end
theorem shJoin_tail (m : ByteArray) (P : Ex → List Sh) : ∀ (x : Ex) (xs : List Ex), shJoin (wSh m) ((x :: xs).map P) = P x ++ shTail m P xs
  | x, [] => by simp [shJoin, shTail]
  | x, y :: ys => by
    have h := shJoin_tail m P y ys
    rw [List.map_cons] at h
    rw [List.map_cons, List.map_cons, shJoin, h, show shTail m P (y :: ys) = wSh m :: (P y ++ shTail m P ys) by simp [shTail]]
/-- What a part costs. -/
def fuP (op : Int) (k : Ex) : Int := if wrapB op k then fuX k + 3 else fuX k
theorem fuXL_tail (op : Int) : ∀ xs : List Ex, fuXL op xs = fuTail (fuP op) xs
  | [] => by rw [fuXL, fuTail]
  | x :: xs => by rw [fuXL, fuTail, fuXL_tail op xs]; unfold fuP; omega
mutual
theorem fuX_nn : ∀ (x : Ex) (n d m : Nat), mayX x n d = some m → 0 ≤ fuX x
  | .mk op days mile ks, n, d, m, h => by
    rw [fuX]
    rcases mayX_kind h with ⟨rfl, h0, h1, h2⟩ | ⟨ho, hk2, hmL⟩
    · rw [if_pos rfl]; omega
    · rw [if_neg (by omega)]
      have h1 := fuXL_ge op ks _ _ _ hmL
      omega
theorem fuXL_ge : ∀ (op : Int) (ks : List Ex) (n d m : Nat), mayXL ks n d = some m → (ks.length : Int) ≤ fuXL op ks
  | _, [], _, _, _, _ => by rw [fuXL]; exact Int.le_refl 0
  | op, k :: ks, n, d, m, h => by
    rw [mayXL_cons] at h
    cases hk : mayX k n d with
    | none => rw [hk] at h; cases h
    | some m' =>
      rw [hk] at h
      have h1 := fuX_nn k n d m' hk
      have h2 := fuXL_ge op ks m' d m h
      rw [fuXL, List.length_cons]
      split <;> omega
end
end Go.Proofs.YtogpmihepfnoaaaGreatDoor

namespace Go.Proofs.YtogpmihepfnoaaaGreatDoor
open Go

theorem mayX_all {op days : Int} {mile : ByteArray} {ks : List Ex} {n d m : Nat} (h : mayX (.mk op days mile ks) n d = some m) :
    1 ≤ d ∧ ((op = 1 ∧ 0 ≤ days ∧ days ≤ 1048576 ∧ mileD mile = true ∧ ks = []) ∨ ((op = 2 ∨ op = 3) ∧ days = 0 ∧ mile = ⟨#[]⟩ ∧ 2 ≤ ks.length ∧ mayXL ks (n - 1) (d - 1) = some m)) := by
  by_cases h0 : n = 0 ∨ d = 0
  · rw [mayX_0 h0] at h; cases h
  · refine ⟨by omega, ?_⟩
    by_cases ho : op = 1
    · subst ho
      rw [mayX_1 h0] at h
      split at h
      · rename_i hx
        obtain ⟨h1, h2, h3, h4⟩ := hx
        exact .inl ⟨rfl, h1, h2, h3, List.eq_nil_of_length_eq_zero h4⟩
      · cases h
    · rw [mayX_2 h0 ho] at h
      split at h
      · rename_i hx
        obtain ⟨h1, h2, h3, h4⟩ := hx
        exact .inr ⟨h1, h2, str_zero h3, h4, h⟩
      · cases h
theorem kind_sh {k : Int} {x : ByteArray} {n : Int} {t : Tk} (h : t.sh = ⟨k, x, n⟩) : t.kind = k ∧ t.text = x ∧ t.n = n := by
  unfold Tk.sh at h
  injection h with h1 h2 h3
  exact ⟨h1, h2, h3⟩
theorem leaf_back (ts : List Tk) (cond : Pst → Ex × Pst) {days : Int} {mile : ByteArray} (hm : mileD mile = true) : Back ts (factD ts cond) (fun _ => True) (.mk 1 days mile []) (shX (.mk 1 days mile [])) 3 := by
  intro p f ha hf _
  rw [shX, if_pos rfl] at ha ⊢
  have i1 : isT ts (kindB 4) ⟨p, f, 0⟩ = false := is_at ha fun t h => by
    obtain ⟨h1, _⟩ := kind_sh h
    simp [kindB, h1]
  unfold factD
  rw [i1, if_neg (by simp)]
  obtain ⟨t1, s1, e1⟩ := take_at (P := kindB 3) (f := f) ha (by omega) fun t h => by
    obtain ⟨h1, _⟩ := kind_sh h
    simp [kindB, h1]
  rw [e1]
  obtain ⟨t2, s2, e2⟩ := take_at (P := wdB wAfter) (f := f - 1) ha.tail (by omega) fun t h => wd_sh h
  dsimp only
  rw [e2]
  obtain ⟨t3, s3, e3⟩ := take_at (P := mileB) (f := f - 1 - 1) ha.tail.tail (by omega) fun t h => by
    obtain ⟨h1, h2, _⟩ := kind_sh h
    simp [mileB, h1, h2, hm]
  dsimp only
  rw [e3]
  obtain ⟨_, _, g1⟩ := kind_sh s1
  obtain ⟨_, g2, _⟩ := kind_sh s3
  dsimp only
  rw [g1, g2]
  rw [show f - 1 - 1 - 1 = f - 3 by omega]
  rfl
/-- What must not follow a condition. -/
def NoC (ts : List Tk) (p : Nat) : Prop := NoW ts wOr p ∧ NoW ts wAnd p ∧ True
theorem now_of {ts : List Tk} {p : Nat} {s : Sh} {l : List Sh} {m : ByteArray} (ha : AtS ts p (s :: l)) (h : s.kind ≠ 1 ∨ s.text ≠ m) : NoW ts m p := fun f => is_at ha fun t ht => by
  subst ht
  rcases h with h | h
  · have : ¬ t.kind = 1 := h
    simp [wdB, this]
  · have : ¬ t.text = m := h
    simp [wdB, this]
theorem wrap_back {ts : List Tk} {cond : Pst → Ex × Pst} {x : Ex} (hc : Back ts cond (NoC ts) x (shX x) (fuX x + 1)) (h0 : 0 ≤ fuX x) : Back ts (factD ts cond) (fun _ => True) x (⟨4, ⟨#[40]⟩, 0⟩ :: (shX x ++ [⟨5, ⟨#[41]⟩, 0⟩])) (fuX x + 3) := by
  intro p f ha hf _
  have i1 : isT ts (kindB 4) ⟨p, f, 0⟩ = true := is_at ha fun t h => by
    obtain ⟨h1, _⟩ := kind_sh h
    simp [kindB, h1]
  unfold factD
  rw [i1, if_pos rfl]
  obtain ⟨t1, s1, e1⟩ := take_at (P := kindB 4) (f := f) ha (by omega) fun t h => by
    obtain ⟨h1, _⟩ := kind_sh h
    simp [kindB, h1]
  rw [e1]
  dsimp only
  have h5 := ha.tail.right
  rw [hc (p + 1) (f - 1) ha.tail.left (by omega) ⟨now_of h5 (.inl (by decide)), now_of h5 (.inl (by decide)), trivial⟩]
  dsimp only
  obtain ⟨t2, s2, e2⟩ := take_at (P := kindB 5) (f := f - 1 - (fuX x + 1)) h5 (by omega) fun t h => by
    obtain ⟨h1, _⟩ := kind_sh h
    simp [kindB, h1]
  rw [e2, List.length_cons, List.length_append, List.length_singleton, show f - 1 - (fuX x + 1) - 1 = f - (fuX x + 3) by omega, show p + 1 + (shX x).length + 1 = p + ((shX x).length + 1 + 1) by omega]
theorem mayXL_mem {ks : List Ex} {n d m : Nat} (h : mayXL ks n d = some m) (x : Ex) (hx : x ∈ ks) : ∃ n' m', mayX x n' d = some m' := by
  obtain ⟨k, hk⟩ := List.getElem?_of_mem hx
  obtain ⟨n', m', _, h'⟩ := mayXL_at ks n d m k x h hk
  exact ⟨n', m', h'⟩
/-- A condition is read back. -/
def CondB (ts : List Tk) (K : Nat) : Prop := ∀ (x : Ex) (n d m : Nat), mayX x n d = some m → d ≤ K → Back ts (condD ts K) (NoC ts) x (shX x) (fuX x + 1)
theorem part_fact {ts : List Tk} {K : Nat} (HC : CondB ts K) (x : Ex) (n d m : Nat) (h : mayX x n d = some m) (hd : x.op ≠ 1 → d ≤ K) : Back ts (factD ts (condD ts K)) (fun _ => True) x (shP_ 3 x) (fuP 3 x) ∧ 0 ≤ fuP 3 x := by
  have h0 := fuX_nn x n d m h
  obtain ⟨op, days, mile, ks⟩ := x
  obtain ⟨hd1, ⟨rfl, _, _, hm, rfl⟩ | ⟨ho, _, _, hk, hL⟩⟩ := mayX_all h
  · have e1 : shP_ 3 (.mk 1 days mile []) = shX (.mk 1 days mile []) := by unfold shP_ wrapB; rfl
    have e2 : fuP 3 (.mk 1 days mile []) = 3 := by unfold fuP wrapB; rw [fuX]; rfl
    rw [e1, e2]
    exact ⟨leaf_back ts _ hm, by omega⟩
  · have hw : wrapB 3 (.mk op days mile ks) = true := by unfold wrapB; rcases ho with rfl | rfl <;> rfl
    have e1 : shP_ 3 (.mk op days mile ks) = ⟨4, ⟨#[40]⟩, 0⟩ :: (shX (.mk op days mile ks) ++ [⟨5, ⟨#[41]⟩, 0⟩]) := by unfold shP_; rw [if_pos hw]
    have e2 : fuP 3 (.mk op days mile ks) = fuX (.mk op days mile ks) + 3 := by unfold fuP; rw [if_pos hw]
    rw [e1, e2]
    exact ⟨wrap_back (HC _ n d m h (hd (by show op ≠ 1; omega))) h0, by omega⟩
theorem one_term {ts : List Tk} {K : Nat} {x : Ex} (hf : Back ts (factD ts (condD ts K)) (fun _ => True) x (shP_ 3 x) (fuP 3 x) ∧ 0 ≤ fuP 3 x) : Back ts (sevD ts (factD ts (condD ts K)) 3 wAnd) (fun p => NoW ts wAnd p ∧ True) x (shP_ 3 x) (fuP 3 x) := by
  have h := sevD_back (ts := ts) (m := wAnd) (P := shP_ 3) (c := fuP 3) (Fol := fun _ => True) (one := factD ts (condD ts K)) 3 (fun _ _ _ => trivial) x [] (fun y hy => by simp at hy; subst hy; exact hf)
  have e1 : shP_ 3 x ++ shTail wAnd (shP_ 3) [] = shP_ 3 x := by simp [shTail]
  have e2 : fuP 3 x + fuTail (fuP 3) [] = fuP 3 x := by rw [fuTail]; omega
  rw [e1, e2] at h
  exact h
theorem part_term {ts : List Tk} {K : Nat} (HC : CondB ts K) (x : Ex) (n d m : Nat) (h : mayX x n d = some m) (hd : d ≤ K + 1) (h2 : x.op = 2 → d ≤ K) : Back ts (sevD ts (factD ts (condD ts K)) 3 wAnd) (fun p => NoW ts wAnd p ∧ True) x (shP_ 2 x) (fuP 2 x) ∧ 0 ≤ fuP 2 x := by
  have h0 := fuX_nn x n d m h
  obtain ⟨op, days, mile, ks⟩ := x
  obtain ⟨hd1, ⟨rfl, _, _, hm, rfl⟩ | ⟨rfl | rfl, rfl, rfl, hk, hL⟩⟩ := mayX_all h
  · have hf := part_fact HC _ n d m h (fun e => absurd rfl e)
    exact ⟨one_term hf, hf.2⟩
  · have hf := part_fact HC _ n d m h (fun _ => h2 rfl)
    exact ⟨one_term hf, hf.2⟩
  · match ks, hk, hL, h0 with
    | k1 :: k2 :: r, hk, hL, h0 =>
      have hx : ∀ y ∈ k1 :: k2 :: r, Back ts (factD ts (condD ts K)) (fun _ => True) y (shP_ 3 y) (fuP 3 y) ∧ 0 ≤ fuP 3 y := fun y hy => by
        obtain ⟨n', m', h'⟩ := mayXL_mem hL y hy
        exact part_fact HC y n' (d - 1) m' h' (fun _ => by omega)
      have hb := sevD_back (ts := ts) (m := wAnd) (P := shP_ 3) (c := fuP 3) (Fol := fun _ => True) (one := factD ts (condD ts K)) 3 (fun _ _ _ => trivial) k1 (k2 :: r) hx
      have hw3 : wrapB 2 (.mk 3 0 ⟨#[]⟩ (k1 :: k2 :: r)) = false := by unfold wrapB; rfl
      have e1 : shP_ 2 (.mk 3 0 ⟨#[]⟩ (k1 :: k2 :: r)) = shP_ 3 k1 ++ shTail wAnd (shP_ 3) (k2 :: r) := by
        rw [← shJoin_tail, ← shXL_map]
        unfold shP_
        rw [if_neg (by rw [hw3]; simp), shX, if_neg (by omega)]
        rfl
      have e2 : fuP 2 (.mk 3 0 ⟨#[]⟩ (k1 :: k2 :: r)) = fuP 3 k1 + fuTail (fuP 3) (k2 :: r) := by
        unfold fuP
        rw [if_neg (by rw [hw3]; simp), fuX, if_neg (by omega), fuXL_tail, fuTail]
        unfold fuP
        omega
      rw [e1, e2]
      refine ⟨hb, ?_⟩
      rw [← e2]
      unfold fuP
      rw [if_neg (by rw [hw3]; simp)]
      exact h0
theorem cond_step {ts : List Tk} {K : Nat} {x : Ex} {l : List Sh} {c : Int} (hb : Back ts (sevD ts (sevD ts (factD ts (condD ts K)) 3 wAnd) 2 wOr) (fun p => NoW ts wOr p ∧ NoW ts wAnd p ∧ True) x l c) (h0 : 0 ≤ c) : Back ts (condD ts (K + 1)) (NoC ts) x l (c + 1) := by
  intro p f ha hf hN
  have e : burnD ⟨p, f, 0⟩ = ⟨p, f - 1, 0⟩ := by
    unfold burnD
    dsimp only
    rw [if_pos rfl, if_neg (by omega)]
  rw [condD, e, if_neg (by simp), hb p (f - 1) ha (by omega) hN, show f - 1 - c = f - (c + 1) by omega]
theorem cond_back (ts : List Tk) : ∀ K : Nat, CondB ts K
  | 0 => fun x n d m h hd => by
    obtain ⟨op, days, mile, ks⟩ := x
    have := (mayX_all h).1
    omega
  | K + 1 => fun x n d m h hd => by
    have HC := cond_back ts K
    have h0 := fuX_nn x n d m h
    have hor : ∀ p l, AtS ts p (wSh wOr :: l) → NoW ts wAnd p ∧ True := fun p l ha => ⟨now_of ha (.inr (by decide)), trivial⟩
    by_cases h2 : x.op = 2
    · obtain ⟨op, days, mile, ks⟩ := x
      obtain rfl : op = 2 := h2
      obtain ⟨hd1, ⟨h1, _⟩ | ⟨_, rfl, rfl, hk, hL⟩⟩ := mayX_all h
      · omega
      · match ks, hk, hL, h0 with
        | k1 :: k2 :: r, hk, hL, h0 =>
          have hx : ∀ y ∈ k1 :: k2 :: r, Back ts (sevD ts (factD ts (condD ts K)) 3 wAnd) (fun p => NoW ts wAnd p ∧ True) y (shP_ 2 y) (fuP 2 y) ∧ 0 ≤ fuP 2 y := fun y hy => by
            obtain ⟨n', m', h'⟩ := mayXL_mem hL y hy
            exact part_term HC y n' (d - 1) m' h' (by omega) (fun _ => by omega)
          have hb := sevD_back (ts := ts) (m := wOr) (P := shP_ 2) (c := fuP 2) (Fol := fun p => NoW ts wAnd p ∧ True) (one := sevD ts (factD ts (condD ts K)) 3 wAnd) 2 hor k1 (k2 :: r) hx
          have e1 : shX (.mk 2 0 ⟨#[]⟩ (k1 :: k2 :: r)) = shP_ 2 k1 ++ shTail wOr (shP_ 2) (k2 :: r) := by
            rw [← shJoin_tail, ← shXL_map, shX, if_neg (by omega)]
            rfl
          have e2 : fuX (.mk 2 0 ⟨#[]⟩ (k1 :: k2 :: r)) = fuP 2 k1 + fuTail (fuP 2) (k2 :: r) := by
            rw [fuX, if_neg (by omega), fuXL_tail, fuTail]
            omega
          rw [e2] at h0 ⊢
          rw [e1]
          exact cond_step hb h0
    · have ht := part_term HC x n d m h hd (fun e => absurd e h2)
      have hb := sevD_back (ts := ts) (m := wOr) (P := shP_ 2) (c := fuP 2) (Fol := fun p => NoW ts wAnd p ∧ True) (one := sevD ts (factD ts (condD ts K)) 3 wAnd) 2 hor x [] (fun y hy => by simp at hy; subst hy; exact ht)
      have hw : wrapB 2 x = false := by unfold wrapB; simp [h2]
      have e1 : shP_ 2 x ++ shTail wOr (shP_ 2) [] = shX x := by unfold shP_; rw [hw]; simp [shTail]
      have e2 : fuP 2 x + fuTail (fuP 2) [] = fuX x := by rw [fuTail]; unfold fuP; rw [hw, if_neg (by simp)]; omega
      rw [e1, e2] at hb
      exact cond_step hb h0
end Go.Proofs.YtogpmihepfnoaaaGreatDoor

namespace Go.Proofs.YtogpmihepfnoaaaGreatDoor
open Go

def actW (n : Int) : ByteArray := if n = 1 then wDestroy else if n = 2 then wReview else wKeep
def shC (c : ByteArray) : List Sh := if c.size = 0 then [wSh wDefault] else [wSh wClass, ⟨2, c, 0⟩]
def fuC (c : ByteArray) : Int := if c.size = 0 then 1 else 2
/-- A rule's words. -/
def shR (r : Ru) : List Sh := shC r.cls ++ (wSh wKeep :: (shX r.wh ++ [wSh wThen, wSh (actW r.act), ⟨6, ⟨#[59]⟩, 0⟩]))
def fuR (r : Ru) : Int := fuC r.cls + fuX r.wh + 5
theorem class_back {ts : List Tk} {c : ByteArray} {p : Nat} {f : Int} {l : List Sh} (ha : AtS ts p (shC c ++ l)) (hf : fuC c ≤ f) : classD ts ⟨p, f, 0⟩ = (c, ⟨p + (shC c).length, f - fuC c, 0⟩) := by
  unfold shC fuC at *
  unfold classD
  by_cases h : c.size = 0
  · rw [if_pos h] at ha hf ⊢
    rw [if_pos h, is_at (b := false) ha fun t ht => by
      obtain ⟨_, h2, _⟩ := kind_sh ht
      have : ¬ t.text = wClass := by rw [h2]; decide
      simp [wdB, this], if_neg (by simp)]
    obtain ⟨t, _, e⟩ := take_at (P := wdB wDefault) (f := f) ha (by omega) fun t ht => wd_sh ht
    rw [e, str_zero h]
    rfl
  · rw [if_neg h] at ha hf ⊢
    rw [if_neg h, is_at (b := true) ha fun t ht => wd_sh ht, if_pos rfl]
    obtain ⟨t, _, e⟩ := take_at (P := wdB wClass) (f := f) ha (by omega) fun t ht => wd_sh ht
    rw [e]
    dsimp only
    obtain ⟨t2, s2, e2⟩ := take_at (P := kindB 2) (f := f - 1) (AtS.tail ha) (by omega) fun t ht => by
      obtain ⟨h1, _⟩ := kind_sh ht
      simp [kindB, h1]
    rw [e2]
    dsimp only
    obtain ⟨_, g, _⟩ := kind_sh s2
    rw [g, show f - 1 - 1 = f - 2 by omega]
    rfl
theorem act_back {ts : List Tk} {n : Int} {p : Nat} {f : Int} {l : List Sh} (hn : 1 ≤ n ∧ n ≤ 3) (ha : AtS ts p (wSh (actW n) :: l)) (hf : 1 ≤ f) : actD ts ⟨p, f, 0⟩ = (n, ⟨p + 1, f - 1, 0⟩) := by
  have hno : ∀ m : ByteArray, actW n ≠ m → isT ts (wdB m) ⟨p, f, 0⟩ = false := fun m hm => now_of ha (.inr hm) f
  have hyes : isT ts (wdB (actW n)) ⟨p, f, 0⟩ = true := is_at ha fun t ht => wd_sh ht
  obtain ⟨t, _, e⟩ := take_at (P := wdB (actW n)) (f := f) ha hf fun t ht => wd_sh ht
  unfold actD
  rcases (by omega : n = 1 ∨ n = 2 ∨ n = 3) with rfl | rfl | rfl
  · rw [show actW 1 = wDestroy from rfl] at hyes e
    rw [hyes, if_pos rfl, e]
  · rw [show actW 2 = wReview from rfl] at hyes e
    rw [hno wDestroy (by decide), if_neg (by simp), hyes, if_pos rfl, e]
  · rw [show actW 3 = wKeep from rfl] at e
    rw [hno wDestroy (by decide), if_neg (by simp), hno wReview (by decide), if_neg (by simp), e]
theorem rule_back {ts : List Tk} {r : Ru} {p : Nat} {f : Int} {l : List Sh} (hr : okR r = true) (ha : AtS ts p (shR r ++ l)) (hf : fuR r ≤ f) : ruleD ts ⟨p, f, 0⟩ = (r, ⟨p + (shR r).length, f - fuR r, 0⟩) := by
  unfold okR at hr
  simp only [Bool.and_eq_true, decide_eq_true_eq] at hr
  obtain ⟨⟨ha1, _⟩, hm⟩ := hr
  obtain ⟨m, hm⟩ := Option.isSome_iff_exists.1 hm
  have h0 := fuX_nn _ _ _ _ hm
  obtain ⟨c, x, a⟩ := r
  dsimp only at ha1 hm h0
  unfold shR fuR at *
  dsimp only at ha hf ⊢
  have hc0 : 0 ≤ fuC c := by unfold fuC; split <;> omega
  rw [List.append_assoc] at ha
  have h1 := ha.right
  rw [List.cons_append, List.append_assoc] at h1
  have h2 := h1.tail
  have h3 := h2.right
  unfold ruleD
  dsimp only
  rw [class_back ha (by omega)]
  obtain ⟨t1, _, e1⟩ := take_at (P := wdB wKeep) (f := f - fuC c) h1 (by omega) fun t ht => wd_sh ht
  dsimp only
  rw [e1]
  dsimp only
  rw [cond_back ts 8 x 24 8 m hm (Nat.le_refl _) _ (f - fuC c - 1) h2.left (by omega) ⟨now_of h3 (.inr (by decide)), now_of h3 (.inr (by decide)), trivial⟩]
  dsimp only
  obtain ⟨t2, _, e2⟩ := take_at (P := wdB wThen) (f := f - fuC c - 1 - (fuX x + 1)) h3 (by omega) fun t ht => wd_sh ht
  rw [e2]
  dsimp only
  rw [act_back ha1 h3.tail (by omega)]
  dsimp only
  obtain ⟨t3, _, e3⟩ := take_at (P := kindB 6) (f := f - fuC c - 1 - (fuX x + 1) - 1 - 1) h3.tail.tail (by omega) fun t ht => by
    obtain ⟨g, _⟩ := kind_sh ht
    simp [kindB, g]
  rw [e3, show f - fuC c - 1 - (fuX x + 1) - 1 - 1 - 1 = f - (fuC c + fuX x + 5) by omega]
  simp only [List.length_append, List.length_cons, List.length_nil]
  rw [show p + (shC c).length + 1 + (shX x).length + 1 + 1 + 1 = p + ((shC c).length + ((shX x).length + (0 + 1 + 1 + 1) + 1)) by omega]
theorem fuR_nn {r : Ru} (hr : okR r = true) : 0 ≤ fuR r := by
  unfold okR at hr
  simp only [Bool.and_eq_true, decide_eq_true_eq] at hr
  obtain ⟨⟨_, _⟩, hm⟩ := hr
  obtain ⟨m, hm⟩ := Option.isSome_iff_exists.1 hm
  have h0 := fuX_nn _ _ _ _ hm
  unfold fuR fuC
  split <;> omega
def fuRs : List Ru → Int
  | [] => 0
  | r :: rs => fuR r + fuRs rs
theorem fuRs_nn : ∀ {rs : List Ru}, (∀ r ∈ rs, okR r = true) → 0 ≤ fuRs rs
  | [], _ => Int.le_refl 0
  | r :: rs, h => by
    have h1 := fuR_nn (h r (by simp))
    have h2 := fuRs_nn (rs := rs) fun x hx => h x (by simp [hx])
    rw [fuRs]
    omega
theorem shR_pos (r : Ru) : 1 ≤ (shR r).length := by
  unfold shR
  rw [List.length_append, List.length_cons]
  omega
theorem rules_back {ts : List Tk} : ∀ (rs : List Ru) (n : Nat) (out : List Ru) (p : Nat) (f : Int), (∀ r ∈ rs, okR r = true) → rs.length ≤ n → AtS ts p (rs.flatMap shR) → p + (rs.flatMap shR).length = ts.length → fuRs rs ≤ f →
    rulesD ts n out ⟨p, f, 0⟩ = (out ++ rs, ⟨ts.length, f - fuRs rs, 0⟩)
  | [], n, out, p, f, _, _, _, hp, _ => by
    obtain rfl : p = ts.length := by simpa using hp
    have e : rulesD ts n out ⟨ts.length, f, 0⟩ = (out, ⟨ts.length, f, 0⟩) := by
      cases n with
      | zero => rfl
      | succ n => rw [rulesD, if_neg (by simp)]
    rw [e]
    simp [fuRs]
  | r :: rs, n, out, p, f, hok, hn, ha, hp, hf => by
    have hr := hok r (by simp)
    have hrs : ∀ x ∈ rs, okR x = true := fun x hx => hok x (by simp [hx])
    have h1 := fuR_nn hr
    have h2 := fuRs_nn hrs
    have h3 := shR_pos r
    rw [List.flatMap_cons] at ha hp
    rw [List.length_append] at hp
    rw [fuRs] at hf ⊢
    match n, hn with
    | n + 1, hn =>
      rw [rulesD, if_pos ⟨rfl, by dsimp only; omega⟩, rule_back hr ha (by omega)]
      dsimp only
      rw [rules_back rs n (out ++ [r]) _ _ hrs (by simpa using hn) ha.right (by omega) (by omega), List.append_assoc, show f - fuR r - fuRs rs = f - (fuR r + fuRs rs) by omega]
      rfl
/-- What is written, read: if the words are these. -/
theorem run_back {ts : List Tk} {rs : List Ru} {f : Int} (hok : ∀ r ∈ rs, okR r = true) (hs : ts.map Tk.sh = rs.flatMap shR) (hf : fuRs rs ≤ f) : runP ts f = (rs, ⟨ts.length, f - fuRs rs, 0⟩) := by
  have hl : (rs.flatMap shR).length = ts.length := by rw [← hs, List.length_map]
  have hn : rs.length ≤ (rs.flatMap shR).length := by
    clear hs hl hf hok
    induction rs with
    | nil => simp
    | cons r rs ih =>
      have := shR_pos r
      rw [List.flatMap_cons, List.length_append, List.length_cons]
      omega
  have h := rules_back (ts := ts) rs (ts.length + 1) [] 0 f hok (by omega) ⟨[], by rw [List.drop_zero, hs, List.append_nil]⟩ (by omega) hf
  rw [List.nil_append] at h
  exact h
end Go.Proofs.YtogpmihepfnoaaaGreatDoor
