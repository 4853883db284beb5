/- How much fuel a reading uses at most: plain laws. -/
import Derived.Test.YtogpmihepfnoaaaDoorPaQ
namespace Go.Proofs.YtogpmihepfnoaaaDoor
open Go

/-- (what it uses, of a text of L words: each word gives two, where it does not fail) -/
structure Use (L : Nat) (c e : Int) (s t : Pst) : Prop where
  ok : t.err = 0 → s.fuel + 2 * s.pos + c ≤ t.fuel + 2 * t.pos
  no : s.err = 0 → t.err ≠ 0 → s.fuel + 2 * s.pos ≤ t.fuel + 2 * t.pos + e
  pos : s.pos ≤ L → t.pos ≤ L
  low : s.err ≠ 14 → t.err = 14 → t.fuel < 1
theorem Use.weak {L : Nat} {c e c' e' : Int} {s t : Pst} (h : Use L c e s t) (hc : c' ≤ c) (he : e ≤ e') : Use L c' e' s t :=
  ⟨fun x => by have := h.ok x; omega, fun x y => by have := h.no x y; omega, h.pos, h.low⟩
theorem Use.then {L : Nat} {c1 e1 c2 e2 c e : Int} {s m t : Pst} (h : Use L c1 e1 s m) (g : Goes s m) (k : Use L c2 e2 m t) (gk : Goes m t) (h1 : e1 ≤ e) (h2 : e2 - c1 ≤ e) (h3 : c ≤ c1 + c2) : Use L c e s t := by
  refine ⟨fun x => ?_, fun x y => ?_, fun x => k.pos (h.pos x), fun x y => ?_⟩
  · have := k.ok x
    have := h.ok (gk.ok x)
    omega
  · by_cases hm : m.err = 0
    · have := k.no hm y
      have := h.ok hm
      omega
    · rw [gk.err hm]
      have := h.no x hm
      omega
  · by_cases hm : m.err = 14
    · have := h.low x hm
      rw [gk.err (by omega)]
      exact this
    · exact k.low hm y
theorem burn_use (L : Nat) (s : Pst) : Use L (-1) 0 s (burnD s) := by
  obtain ⟨p, f, e⟩ := s
  unfold burnD
  dsimp only
  by_cases he : e = 0
  · rw [if_pos he]
    by_cases h1 : f < 1
    · rw [if_pos h1]
      exact ⟨fun x => (by cases x), fun _ _ => (by dsimp only; omega), id, fun _ _ => h1⟩
    · rw [if_neg h1]
      refine ⟨fun _ => ?_, fun x y => absurd x y, id, fun x y => absurd y x⟩
      dsimp only
      omega
  · rw [if_neg he]
    exact ⟨fun x => absurd x he, fun x => absurd x he, id, fun x y => absurd y x⟩
theorem take_use (ts : List Tk) (p : Tk → Bool) (s : Pst) : Use ts.length 1 1 s (takeT ts p s).2 := by
  have hb := burn_use ts.length s
  have hp := burn_pos s
  have hg := burn_goes s
  unfold takeT
  split
  · rename_i h
    show Use ts.length 1 1 s (burnD s)
    exact ⟨fun x => absurd x h, fun x y => (by have := hb.no x y; omega), hb.pos, hb.low⟩
  · rename_i h
    have h0 : (burnD s).err = 0 := by omega
    have h1 := hb.ok h0
    rw [hp] at h1
    have hbad : Use ts.length 1 1 s { burnD s with err := 2 } := ⟨fun x => (by cases x), fun _ _ => (by dsimp only; rw [hp]; omega), hb.pos, fun _ y => (by cases y)⟩
    cases ht : ts[s.pos]? with
    | none => exact hbad
    | some t =>
      dsimp only
      split
      · refine ⟨fun _ => ?_, fun _ y => absurd h0 y, fun _ => ?_, fun _ y => ?_⟩
        · dsimp only; omega
        · exact (List.getElem?_eq_some_iff.1 ht).1
        · dsimp only at y; omega
      · exact hbad
theorem sevL_use {ts : List Tk} {one : Pst → Ex × Pst} (h1 : ∀ s, Goes s (one s).2) (hu : ∀ s, Use ts.length 1 1 s (one s).2) (m : ByteArray) : ∀ (n : Nat) (ks : List Ex) (s : Pst), Use ts.length 0 1 s (sevL ts one m n ks s).2
  | 0, _, s => ⟨fun _ => by show s.fuel + 2 * s.pos + 0 ≤ s.fuel + 2 * s.pos; omega, fun x y => absurd x y, id, fun x y => absurd y x⟩
  | n + 1, ks, s => by
    rw [sevL]
    split
    · exact ((take_use ts (wdB m) s).then (take_goes ts _ s) (hu _) (h1 _) (Int.le_refl 1) (by omega) (Int.le_refl 2)).then ((take_goes ts _ s).trans (h1 _)) (sevL_use h1 hu m n _ _) (sevL_goes h1 m n _ _) (Int.le_refl 1) (by omega) (by omega)
    · exact ⟨fun _ => by show s.fuel + 2 * s.pos + 0 ≤ s.fuel + 2 * s.pos; omega, fun x y => absurd x y, id, fun x y => absurd y x⟩
theorem sevD_use {ts : List Tk} {one : Pst → Ex × Pst} (h1 : ∀ s, Goes s (one s).2) (hu : ∀ s, Use ts.length 1 1 s (one s).2) (op : Int) (m : ByteArray) (s : Pst) : Use ts.length 1 1 s (sevD ts one op m s).2 :=
  (hu s).then (h1 s) (sevL_use h1 hu m _ _ _) (sevL_goes h1 m _ _ _) (Int.le_refl 1) (by omega) (by omega)
theorem factD_use {ts : List Tk} {cond : Pst → Ex × Pst} (h1 : ∀ s, Goes s (cond s).2) (hu : ∀ s, Use ts.length 0 2 s (cond s).2) (s : Pst) : Use ts.length 1 1 s (factD ts cond s).2 := by
  have hT := fun p s => take_use ts p s
  have hG := fun p s => take_goes ts p s
  unfold factD
  split
  · exact ((hT _ s).then (hG _ s) (hu _) (h1 _) (Int.le_refl 1) (by omega) (c := 1) (by omega)).then ((hG _ s).trans (h1 _)) (hT _ _) (hG _ _) (Int.le_refl 1) (by omega) (by omega)
  · exact ((hT _ s).then (hG _ s) (hT _ _) (hG _ _) (Int.le_refl 1) (by omega) (c := 2) (by omega)).then ((hG _ s).trans (hG _ _)) (hT _ _) (hG _ _) (Int.le_refl 1) (by omega) (by omega)
theorem condD_use (ts : List Tk) : ∀ (K : Nat) (s : Pst), Use ts.length 0 2 s (condD ts K s).2
  | 0, s => by
    have hb := burn_use ts.length s
    show Use ts.length 0 2 s (failD 2 (burnD s))
    unfold failD
    split
    · rename_i h0
      have h1 := hb.ok h0
      exact ⟨fun x => (by cases x), fun _ _ => (by dsimp only; omega), hb.pos, fun _ y => (by cases y)⟩
    · rename_i h
      exact ⟨fun x => absurd x h, fun x y => (by have := hb.no x y; omega), hb.pos, hb.low⟩
  | K + 1, s => by
    have hb := burn_use ts.length s
    have hg := factD_goes (ts := ts) (condD_goes ts K)
    have hf := factD_use (ts := ts) (condD_goes ts K) (condD_use ts K)
    rw [condD]
    split
    · rename_i h
      show Use ts.length 0 2 s (burnD s)
      exact ⟨fun x => absurd x h, fun x y => (by have := hb.no x y; omega), hb.pos, hb.low⟩
    · exact hb.then (burn_goes s) (sevD_use (sevD_goes (ts := ts) hg 3 wAnd) (sevD_use hg hf 3 wAnd) 2 wOr _) (sevD_goes (sevD_goes (ts := ts) hg 3 wAnd) 2 wOr _) (by omega) (by omega) (by omega)
theorem classD_use (ts : List Tk) (s : Pst) : Use ts.length 1 1 s (classD ts s).2 := by
  unfold classD
  split
  · exact (take_use ts _ s).then (take_goes ts _ s) (take_use ts _ _) (take_goes ts _ _) (Int.le_refl 1) (by omega) (by omega)
  · exact take_use ts _ s
theorem actD_use (ts : List Tk) (s : Pst) : Use ts.length 1 1 s (actD ts s).2 := by
  unfold actD
  split
  · exact take_use ts _ s
  · split
    · exact take_use ts _ s
    · exact take_use ts _ s
theorem ruleD_use (ts : List Tk) (s : Pst) : Use ts.length 1 1 s (ruleD ts s).2 := by
  have hT := fun p s => take_use ts p s
  have hG := fun p s => take_goes ts p s
  have g1 := classD_goes ts s
  have u2 := (classD_use ts s).then g1 (hT (wdB wKeep) _) (hG (wdB wKeep) _) (Int.le_refl 1) (by omega) (Int.le_refl 2)
  have g2 := g1.trans (hG (wdB wKeep) _)
  have u3 := u2.then g2 (condD_use ts 8 _) (condD_goes ts 8 _) (Int.le_refl 1) (by omega) (Int.le_refl 2)
  have g3 := g2.trans (condD_goes ts 8 _)
  have u4 := u3.then g3 (hT (wdB wThen) _) (hG (wdB wThen) _) (Int.le_refl 1) (by omega) (Int.le_refl 3)
  have g4 := g3.trans (hG (wdB wThen) _)
  have u5 := u4.then g4 (actD_use ts _) (actD_goes ts _) (Int.le_refl 1) (by omega) (Int.le_refl 4)
  exact u5.then (g4.trans (actD_goes ts _)) (hT (kindB 6) _) (hG (kindB 6) _) (Int.le_refl 1) (by omega) (by omega)
theorem rulesD_use (ts : List Tk) : ∀ (n : Nat) (out : List Ru) (s : Pst), Use ts.length 0 1 s (rulesD ts n out s).2
  | 0, _, s => ⟨fun _ => by show s.fuel + 2 * s.pos + 0 ≤ s.fuel + 2 * s.pos; omega, fun x y => absurd x y, id, fun x y => absurd y x⟩
  | n + 1, out, s => by
    rw [rulesD]
    split
    · exact (ruleD_use ts s).then (ruleD_goes ts s) (rulesD_use ts n _ _) (rulesD_goes ts n _ _) (Int.le_refl 1) (by omega) (by omega)
    · exact ⟨fun _ => by show s.fuel + 2 * s.pos + 0 ≤ s.fuel + 2 * s.pos; omega, fun x y => absurd x y, id, fun x y => absurd y x⟩
/-! A text's reading, with this fuel and that. -/
abbrev runP (ts : List Tk) (fuel : Int) : List Ru × Pst := rulesD ts (ts.length + 1) [] ⟨0, fuel, 0⟩
/-- What is left, at least. -/
theorem run_left (ts : List Tk) (fuel : Int) : fuel - 2 * ts.length - 1 ≤ (runP ts fuel).2.fuel := by
  have h : Use ts.length 0 1 ⟨0, fuel, 0⟩ (runP ts fuel).2 := rulesD_use ts (ts.length + 1) [] ⟨0, fuel, 0⟩
  have hp := h.pos (Nat.zero_le _)
  by_cases he : (runP ts fuel).2.err = 0
  · have := h.ok he
    dsimp only at this hp
    omega
  · have := h.no rfl he
    dsimp only at this hp
    omega
theorem run_enough {ts : List Tk} {fuel : Int} (h : 2 * ts.length + 2 ≤ fuel) : (runP ts fuel).2.err ≠ 14 := fun e => by
  have h0 : Use ts.length 0 1 ⟨0, fuel, 0⟩ (runP ts fuel).2 := rulesD_use ts (ts.length + 1) [] ⟨0, fuel, 0⟩
  have h1 := h0.low (by simp) e
  have h2 := run_left ts fuel
  omega
theorem run_rel (ts : List Tk) (fuel : Int) {d : Int} (hd : 0 ≤ d) : Rel d (runP ts fuel) (runP ts (fuel + d)) := rulesD_rel hd ts _ [] ⟨0, fuel, 0⟩
/-- With less it is the same, if so much is left. -/
theorem run_down {ts : List Tk} {fuel d : Int} (hd : 0 ≤ d) (h : d ≤ (runP ts (fuel + d)).2.fuel) : (runP ts fuel).1 = (runP ts (fuel + d)).1 ∧ (runP ts (fuel + d)).2 = shP d (runP ts fuel).2 := by
  rcases run_rel ts fuel hd with x | ⟨_, x⟩
  · exact x
  · omega
/-- With more it is the same, if there was enough. -/
theorem run_up {ts : List Tk} {fuel d : Int} (hd : 0 ≤ d) (h : (runP ts fuel).2.err ≠ 14) : (runP ts fuel).1 = (runP ts (fuel + d)).1 ∧ (runP ts (fuel + d)).2 = shP d (runP ts fuel).2 := by
  rcases run_rel ts fuel hd with x | ⟨x, _⟩
  · exact x
  · exact absurd x h
/-- With as much as it costs, or more, it is the same; with less there is not enough. -/
theorem run_cost {ts : List Tk} {M L : Int} (h0 : (runP ts M).2.err = 0) (hL : (runP ts M).2.fuel = L) (hn : 0 ≤ L) :
    (∀ more, 0 ≤ more → (runP ts (M - L + more)).1 = (runP ts M).1 ∧ (runP ts (M - L + more)).2.err = 0) ∧ ∀ less, 1 ≤ less → less ≤ M - L → (runP ts (M - L - less)).2.err = 14 := by
  have hd := run_down (ts := ts) (fuel := M - L) (d := L) hn (by rw [show M - L + L = M by omega]; omega)
  rw [show M - L + L = M by omega] at hd
  obtain ⟨d1, d2⟩ := hd
  have e0 : (runP ts (M - L)).2.err = 0 := by rw [d2] at h0; exact h0
  have f0 : (runP ts (M - L)).2.fuel = 0 := by
    rw [d2] at hL
    have : (runP ts (M - L)).2.fuel + L = L := hL
    omega
  refine ⟨fun more hm => ?_, fun less h1 h2 => ?_⟩
  · have hu := run_up (ts := ts) (fuel := M - L) hm (by omega)
    refine ⟨hu.1.symm.trans d1, ?_⟩
    rw [hu.2]
    exact e0
  · by_cases he : (runP ts (M - L - less)).2.err = 14
    · exact he
    · have hu := run_up (ts := ts) (fuel := M - L - less) (d := less) (by omega) he
      rw [show M - L - less + less = M - L by omega] at hu
      have h3 := (rulesD_goes ts (ts.length + 1) [] ⟨0, M - L - less, 0⟩).nn (by dsimp only; omega)
      have h4 : (runP ts (M - L)).2.fuel = (runP ts (M - L - less)).2.fuel + less := by rw [hu.2]; rfl
      have h5 : 0 ≤ (runP ts (M - L - less)).2.fuel := h3
      omega
end Go.Proofs.YtogpmihepfnoaaaDoor
