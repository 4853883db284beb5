/- How much fuel a reading needs: plain laws. -/
import Derived.Test.YtogpmihepfnoaaaDoorPaP
namespace Go.Proofs.YtogpmihepfnoaaaDoor
open Go

/-! With so much more fuel all is the same, or there was not enough. -/
def shP (d : Int) (s : Pst) : Pst := { s with fuel := s.fuel + d }
def Rel {α : Type} (d : Int) (a b : α × Pst) : Prop := (a.1 = b.1 ∧ b.2 = shP d a.2) ∨ (a.2.err = 14 ∧ b.2.fuel < d)
def RelS (d : Int) (s t : Pst) : Prop := t = shP d s ∨ (s.err = 14 ∧ t.fuel < d)
theorem Rel.st {α : Type} {d : Int} {a b : α × Pst} (h : Rel d a b) : RelS d a.2 b.2 := h.imp (fun x => x.2) id
/-- What follows. -/
theorem RelS.next {α : Type} {d : Int} {s t : Pst} {G : Pst → α × Pst} (h : RelS d s t) (hg : ∀ s, Goes s (G s).2) (hr : ∀ s, Rel d (G s) (G (shP d s))) : Rel d (G s) (G t) := by
  rcases h with rfl | ⟨h1, h2⟩
  · exact hr s
  · refine .inr ⟨?_, ?_⟩
    · rw [(hg s).err (by omega)]; exact h1
    · have := (hg t).fuel; omega
theorem burn_rel {d : Int} (hd : 0 ≤ d) (s : Pst) : RelS d (burnD s) (burnD (shP d s)) := by
  obtain ⟨p, f, e⟩ := s
  unfold burnD shP
  dsimp only
  by_cases he : e = 0
  · rw [if_pos he, if_pos he]
    by_cases h1 : f < 1
    · rw [if_pos h1]
      by_cases h2 : f + d < 1
      · rw [if_pos h2]; exact .inl rfl
      · rw [if_neg h2]; exact .inr ⟨rfl, by show f + d - 1 < d; omega⟩
    · rw [if_neg h1, if_neg (by omega)]
      refine .inl (Pst.ext_ rfl ?_ rfl)
      show f + d - 1 = f - 1 + d
      omega
  · rw [if_neg he, if_neg he]; exact .inl rfl
theorem fail_rel {d : Int} {e : Int} (he : e ≠ 14) {s t : Pst} (h : RelS d s t) : RelS d (failD e s) (failD e t) := by
  rcases h with rfl | ⟨h1, h2⟩
  · refine .inl ?_
    unfold failD shP
    dsimp only
    split <;> rfl
  · refine .inr ⟨?_, ?_⟩
    · unfold failD; rw [if_neg (by omega)]; exact h1
    · have := (fail_goes e t).fuel; omega
theorem take_rel {d : Int} (hd : 0 ≤ d) (ts : List Tk) (p : Tk → Bool) (s : Pst) : Rel d (takeT ts p s) (takeT ts p (shP d s)) := by
  have h := burn_rel hd s
  have hg := burn_goes (shP d s)
  rcases h with h | ⟨h1, h2⟩
  · have hf : (burnD (shP d s)).err = (burnD s).err := by rw [h]; rfl
    unfold takeT
    rw [hf, h, show (shP d s).pos = s.pos from rfl]
    split
    · exact .inl ⟨rfl, rfl⟩
    · cases ts[s.pos]? with
      | none => exact .inl ⟨rfl, rfl⟩
      | some t =>
        dsimp only [shP]
        split
        · exact .inl ⟨rfl, rfl⟩
        · exact .inl ⟨rfl, rfl⟩
  · refine .inr ⟨?_, ?_⟩
    · unfold takeT
      rw [if_pos (by omega)]
      exact h1
    · unfold takeT
      split
      · exact h2
      · split
        · exact h2
        · split
          · exact h2
          · exact h2
theorem is_sh (d : Int) (ts : List Tk) (p : Tk → Bool) (s : Pst) : isT ts p (shP d s) = isT ts p s := rfl
/-- A word ahead is as it was, or it does not matter. -/
theorem sevL_rel {d : Int} (hd : 0 ≤ d) {ts : List Tk} {one : Pst → Ex × Pst} (h1 : ∀ s, Goes s (one s).2) (hr : ∀ s, Rel d (one s) (one (shP d s))) (m : ByteArray) : ∀ (n : Nat) (ks : List Ex) (s : Pst), Rel d (sevL ts one m n ks s) (sevL ts one m n ks (shP d s))
  | 0, _, _ => .inl ⟨rfl, rfl⟩
  | n + 1, ks, s => by
    rw [sevL, sevL, is_sh]
    split
    · have h2 := (take_rel hd ts (wdB m) s).st.next h1 hr
      rcases h2 with ⟨e1, e2⟩ | ⟨e1, e2⟩
      · rw [e2, ← e1]
        exact sevL_rel hd h1 hr m n _ _
      · refine .inr ⟨?_, ?_⟩
        · rw [(sevL_goes h1 m n _ _).err (by omega)]; exact e1
        · have := (sevL_goes (ts := ts) h1 m n (ks ++ [(one (takeT ts (wdB m) (shP d s)).2).1]) (one (takeT ts (wdB m) (shP d s)).2).2).fuel
          omega
    · exact .inl ⟨rfl, rfl⟩
theorem sevD_rel {d : Int} (hd : 0 ≤ d) {ts : List Tk} {one : Pst → Ex × Pst} (h1 : ∀ s, Goes s (one s).2) (hr : ∀ s, Rel d (one s) (one (shP d s))) (op : Int) (m : ByteArray) (s : Pst) : Rel d (sevD ts one op m s) (sevD ts one op m (shP d s)) := by
  unfold sevD
  rcases hr s with ⟨e1, e2⟩ | ⟨e1, e2⟩
  · rw [e2, ← e1]
    rcases sevL_rel hd h1 hr m (ts.length + 1) [(one s).1] (one s).2 with ⟨f1, f2⟩ | ⟨f1, f2⟩
    · exact .inl ⟨by rw [f1], f2⟩
    · exact .inr ⟨f1, f2⟩
  · refine .inr ⟨?_, ?_⟩
    · show (sevL ts one m (ts.length + 1) [(one s).1] (one s).2).2.err = 14
      rw [(sevL_goes h1 m _ _ _).err (by omega)]; exact e1
    · have := (sevL_goes (ts := ts) h1 m (ts.length + 1) [(one (shP d s)).1] (one (shP d s)).2).fuel
      show (sevL ts one m (ts.length + 1) [(one (shP d s)).1] (one (shP d s)).2).2.fuel < d
      omega
theorem Rel.late {α β : Type} {d : Int} {a b : α × Pst} {G : Pst → β × Pst} (h1 : a.2.err = 14) (h2 : b.2.fuel < d) (hg : ∀ s, Goes s (G s).2) : (G a.2).2.err = 14 ∧ (G b.2).2.fuel < d := by
  refine ⟨?_, ?_⟩
  · rw [(hg _).err (by omega)]; exact h1
  · have := (hg b.2).fuel; omega
theorem factD_rel {d : Int} (hd : 0 ≤ d) {ts : List Tk} {cond : Pst → Ex × Pst} (h1 : ∀ s, Goes s (cond s).2) (hr : ∀ s, Rel d (cond s) (cond (shP d s))) (s : Pst) : Rel d (factD ts cond s) (factD ts cond (shP d s)) := by
  have hT := fun p s => take_rel hd ts p s
  have hG := fun p s => take_goes ts p s
  unfold factD
  rw [is_sh]
  split
  · rcases (hT (kindB 4) s).st.next h1 hr with ⟨e1, e2⟩ | ⟨e1, e2⟩
    · rw [e2, ← e1]
      exact (hT (kindB 5) _).imp (fun x => ⟨rfl, x.2⟩) id
    · have e9 := Rel.late e1 e2 (hG (kindB 5))
      exact .inr e9
  · rcases hT (kindB 3) s with ⟨e1, e2⟩ | ⟨e1, e2⟩
    · rw [e2, ← e1]
      rcases (hT (wdB wAfter) (takeT ts (kindB 3) s).2).st.next (hG mileB) (hT mileB) with ⟨f1, f2⟩ | ⟨f1, f2⟩
      · exact .inl ⟨by rw [f1], f2⟩
      · exact .inr ⟨f1, f2⟩
    · have e3 := Rel.late e1 e2 (hG (wdB wAfter))
      have e9 := Rel.late e3.1 e3.2 (hG mileB)
      exact .inr e9
theorem condD_rel {d : Int} (hd : 0 ≤ d) (ts : List Tk) : ∀ (K : Nat) (s : Pst), Rel d (condD ts K s) (condD ts K (shP d s))
  | 0, s => (fail_rel (by omega) (burn_rel hd s)).imp (fun x => ⟨rfl, x⟩) id
  | K + 1, s => by
    have ih := condD_rel hd ts K
    have hg := factD_goes (ts := ts) (condD_goes ts K)
    have hf := factD_rel (ts := ts) hd (condD_goes ts K) ih
    have hG := sevD_goes (ts := ts) (sevD_goes (ts := ts) hg 3 wAnd) 2 wOr
    have hR := sevD_rel (ts := ts) hd (sevD_goes (ts := ts) hg 3 wAnd) (sevD_rel hd hg hf 3 wAnd) 2 wOr
    rw [condD, condD]
    rcases burn_rel hd s with h | ⟨h1, h2⟩
    · rw [h]
      show Rel d _ (if (burnD s).err ≠ 0 then _ else _)
      split
      · exact .inl ⟨rfl, rfl⟩
      · exact hR _
    · rw [if_pos (by omega)]
      split
      · exact .inr ⟨h1, h2⟩
      · refine .inr ⟨h1, ?_⟩
        have := (hG (burnD (shP d s))).fuel
        omega
theorem classD_rel {d : Int} (hd : 0 ≤ d) (ts : List Tk) (s : Pst) : Rel d (classD ts s) (classD ts (shP d s)) := by
  have hT := fun p s => take_rel hd ts p s
  have hG := fun p s => take_goes ts p s
  unfold classD
  rw [is_sh]
  split
  · rcases (hT (wdB wClass) s).st.next (hG (kindB 2)) (hT (kindB 2)) with ⟨f1, f2⟩ | ⟨f1, f2⟩
    · exact .inl ⟨by rw [f1], f2⟩
    · exact .inr ⟨f1, f2⟩
  · exact (hT _ s).imp (fun x => ⟨rfl, x.2⟩) id
theorem actD_rel {d : Int} (hd : 0 ≤ d) (ts : List Tk) (s : Pst) : Rel d (actD ts s) (actD ts (shP d s)) := by
  have hT := fun p s => take_rel hd ts p s
  unfold actD
  rw [is_sh, is_sh]
  split
  · exact (hT _ s).imp (fun x => ⟨rfl, x.2⟩) id
  · split
    · exact (hT _ s).imp (fun x => ⟨rfl, x.2⟩) id
    · exact (hT _ s).imp (fun x => ⟨rfl, x.2⟩) id
theorem ruleD_rel {d : Int} (hd : 0 ≤ d) (ts : List Tk) (s : Pst) : Rel d (ruleD ts s) (ruleD ts (shP d s)) := by
  have hT := fun p s => take_rel hd ts p s
  have hG := fun p s => take_goes ts p s
  have gC := condD_goes ts 8
  have gA := actD_goes ts
  unfold ruleD
  dsimp only
  rcases classD_rel hd ts s with ⟨a1, a2⟩ | ⟨a1, a2⟩
  · rw [a2, ← a1]
    rcases (hT (wdB wKeep) (classD ts s).2).st.next gC (condD_rel hd ts 8) with ⟨b1, b2⟩ | ⟨b1, b2⟩
    · rw [b2, ← b1]
      rcases (hT (wdB wThen) (condD ts 8 (takeT ts (wdB wKeep) (classD ts s).2).2).2).st.next gA (actD_rel hd ts) with ⟨c1, c2⟩ | ⟨c1, c2⟩
      · rw [c2, ← c1]
        exact (hT (kindB 6) _).imp (fun x => ⟨rfl, x.2⟩) id
      · have e9 := Rel.late c1 c2 (hG (kindB 6))
        exact .inr e9
    · have e1 := Rel.late b1 b2 (hG (wdB wThen))
      have e2 := Rel.late e1.1 e1.2 gA
      have e9 := Rel.late e2.1 e2.2 (hG (kindB 6))
      exact .inr e9
  · have e0 := Rel.late a1 a2 (hG (wdB wKeep))
    have e3 := Rel.late e0.1 e0.2 gC
    have e1 := Rel.late e3.1 e3.2 (hG (wdB wThen))
    have e2 := Rel.late e1.1 e1.2 gA
    have e9 := Rel.late e2.1 e2.2 (hG (kindB 6))
    exact .inr e9
theorem rulesD_rel {d : Int} (hd : 0 ≤ d) (ts : List Tk) : ∀ (n : Nat) (out : List Ru) (s : Pst), Rel d (rulesD ts n out s) (rulesD ts n out (shP d s))
  | 0, _, _ => .inl ⟨rfl, rfl⟩
  | n + 1, out, s => by
    rw [rulesD, rulesD]
    show Rel d _ (if s.err = 0 ∧ s.pos < ts.length then _ else _)
    split
    · rcases ruleD_rel hd ts s with ⟨e1, e2⟩ | ⟨e1, e2⟩
      · rw [e2, ← e1]
        exact rulesD_rel hd ts n _ _
      · refine .inr ⟨?_, ?_⟩
        · rw [(rulesD_goes ts n _ _).err (by omega)]; exact e1
        · have := (rulesD_goes ts n (out ++ [(ruleD ts (shP d s)).1]) (ruleD ts (shP d s)).2).fuel
          omega
    · exact .inl ⟨rfl, rfl⟩
end Go.Proofs.YtogpmihepfnoaaaDoor
