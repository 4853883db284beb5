/- Disks: plain laws: what a disk is, its acts; what is safe behind them. -/
import Derived.Test.YtlbldmpiaebeeaaDoorTree
namespace Go.Proofs.YtlbldmpiaebeeaaDoor
open Go Go.RowKit

/-- A disk. -/
structure Dk where
  safe : List (List UInt8)
  wait : List (Option (List UInt8))
  fuse : Int
  dead : Bool
/-- A sector of one byte. -/
def fullS (c : UInt8) : List UInt8 := List.replicate 256 c
theorem fullS_len (c : UInt8) : (fullS c).length = 256 := List.length_replicate
theorem fullS_inj {a b : UInt8} (h : fullS a = fullS b) : a = b := by
  unfold fullS at h
  exact (List.replicate_inj.1 h).2.resolve_left (by decide)
def Dk.new (n : Nat) : Dk := ⟨List.replicate n (fullS 0), List.replicate n none, -1, false⟩
/-- An act was done. -/
def Dk.did (d : Dk) : Dk := if 0 < d.fuse then { d with fuse := d.fuse - 1, dead := decide (d.fuse - 1 = 0) } else d
/-- Is there such a sector? The error, if not. -/
def Dk.there (d : Dk) (i : Int) : Int := if d.dead then 8 else if i < 0 ∨ (d.safe.length : Int) ≤ i then 5 else 0
def Dk.put (d : Dk) (i : Nat) (l : List UInt8) : Dk := { d with wait := d.wait.set i (some l) }
def Dk.write (d : Dk) (i : Int) (l : List UInt8) : Int × Dk := if d.there i ≠ 0 then (d.there i, d) else if l.length ≠ 256 then (1, d) else (0, (d.put i.toNat l).did)
def Dk.over (s : List UInt8) (x : Option (List UInt8)) : List UInt8 := x.getD s
def Dk.flushed (d : Dk) : Dk := { d with safe := List.zipWith Dk.over d.safe d.wait, wait := d.wait.map fun _ => none }
def Dk.flush (d : Dk) : Int × Dk := if d.dead then (8, d) else (0, d.flushed.did)
/-- The sector as it is read. -/
def Dk.at_ (d : Dk) (i : Nat) : List UInt8 := Dk.over (d.safe.getD i []) (d.wait.getD i none)
/-- The sectors that are not safe, from one on. -/
def pendS : Nat → List (Option (List UInt8)) → List Nat
  | _, [] => []
  | i, x :: l => if x.isSome then i :: pendS (i + 1) l else pendS (i + 1) l
def Dk.pending (d : Dk) : List Nat := pendS 0 d.wait
/-- What stays: k: how many were pending ahead. -/
def keepS (keep : List Bool) : Nat → List (List UInt8) → List (Option (List UInt8)) → List (List UInt8)
  | k, s :: ss, some x :: ws => (if keep.getD k false then x else s) :: keepS keep (k + 1) ss ws
  | k, s :: ss, none :: ws => s :: keepS keep k ss ws
  | _, ss, _ => ss
def Dk.crash (d : Dk) (keep : List Bool) : Dk := ⟨keepS keep 0 d.safe d.wait, d.wait.map fun _ => none, -1, false⟩

theorem keepS_len (keep : List Bool) : ∀ (ss : List (List UInt8)) (ws : List (Option (List UInt8))) (k : Nat), (keepS keep k ss ws).length = ss.length
  | [], [], _ => rfl
  | [], _ :: _, _ => rfl
  | _ :: _, [], _ => rfl
  | s :: ss, some x :: ws, k => by simp [keepS, keepS_len keep ss ws]
  | s :: ss, none :: ws, k => by simp [keepS, keepS_len keep ss ws]
theorem keepS_at (keep : List Bool) : ∀ (ss : List (List UInt8)) (ws : List (Option (List UInt8))) (k i : Nat) (s : List UInt8) (x : Option (List UInt8)), ss[i]? = some s → ws[i]? = some x → (keepS keep k ss ws)[i]? = some s ∨ ∃ y, x = some y ∧ (keepS keep k ss ws)[i]? = some y
  | s :: ss, some y :: ws, k, 0, s', x', h1, h2 => by
    simp only [List.getElem?_cons_zero, Option.some.injEq] at h1 h2
    subst h1 h2
    unfold keepS
    by_cases hk : keep.getD k false
    · right; exact ⟨y, rfl, by rw [if_pos hk]; rfl⟩
    · left; rw [if_neg hk]; rfl
  | s :: ss, some y :: ws, k, i + 1, s', x', h1, h2 => by
    simp only [List.getElem?_cons_succ] at h1 h2
    unfold keepS
    simp only [List.getElem?_cons_succ]
    exact keepS_at keep ss ws (k + 1) i s' x' h1 h2
  | s :: ss, none :: ws, k, 0, s', x', h1, h2 => by
    simp only [List.getElem?_cons_zero, Option.some.injEq] at h1 h2
    subst h1 h2
    left; unfold keepS; rfl
  | s :: ss, none :: ws, k, i + 1, s', x', h1, h2 => by
    simp only [List.getElem?_cons_succ] at h1 h2
    unfold keepS
    simp only [List.getElem?_cons_succ]
    exact keepS_at keep ss ws k i s' x' h1 h2
  | [], _, _, _, _, _, h1, _ => by simp at h1
  | _ :: _, [], _, _, _, _, _, h2 => by simp at h2
theorem pendS_z (j : Nat) (ws : List (Option (List UInt8))) : pendS j (none :: ws) = pendS (j + 1) ws := rfl
theorem pendS_s (j : Nat) (l : List UInt8) (ws : List (Option (List UInt8))) : pendS j (some l :: ws) = j :: pendS (j + 1) ws := rfl
theorem pendS_mem : ∀ (ws : List (Option (List UInt8))) (j i : Nat), i ∈ pendS j ws ↔ ∃ k l, i = j + k ∧ ws[k]? = some (some l)
  | [], j, i => by simp [pendS]
  | x :: ws, j, i => by
    have ih := pendS_mem ws (j + 1) i
    have key : (∃ k l, i = j + k ∧ (x :: ws)[k]? = some (some l)) ↔ ((i = j ∧ ∃ l, x = some l) ∨ ∃ k l, i = j + 1 + k ∧ ws[k]? = some (some l)) := by
      constructor
      · rintro ⟨k, l, rfl, h⟩
        cases k with
        | zero => left; simp only [List.getElem?_cons_zero, Option.some.injEq] at h; exact ⟨rfl, l, h⟩
        | succ k => right; simp only [List.getElem?_cons_succ] at h; exact ⟨k, l, by omega, h⟩
      · rintro (⟨rfl, l, rfl⟩ | ⟨k, l, rfl, h⟩)
        · exact ⟨0, l, rfl, rfl⟩
        · exact ⟨k + 1, l, by omega, h⟩
    rw [key, ← ih]
    cases x with
    | none =>
      rw [pendS_z]
      constructor
      · intro h; exact .inr h
      · rintro (⟨_, _, h⟩ | h)
        · cases h
        · exact h
    | some l =>
      rw [pendS_s, List.mem_cons]
      constructor
      · rintro (h | h)
        · exact .inl ⟨h, l, rfl⟩
        · exact .inr h
      · rintro (⟨h, _⟩ | h)
        · exact .inl h
        · exact .inr h
/-- The law's own lists: what is safe, what was written last. -/
structure SafeI (d : Dk) (s t : List UInt8) : Prop where
  fuse : d.fuse = -1
  dead : d.dead = false
  sl : s.length = 9
  tl : t.length = 9
  dl : d.safe.length = 9
  wl : d.wait.length = 9
  at_ : ∀ i, i < 9 → d.safe[i]? = some (fullS (s.getD i 0)) ∧ (d.wait[i]? = some none ∧ s.getD i 0 = t.getD i 0 ∨ d.wait[i]? = some (some (fullS (t.getD i 0))))
theorem SafeI.new : SafeI (Dk.new 9) (List.replicate 9 0) (List.replicate 9 0) := by
  refine ⟨rfl, rfl, rfl, rfl, by unfold Dk.new; exact List.length_replicate, by unfold Dk.new; exact List.length_replicate, fun i hi => ⟨?_, .inl ⟨?_, rfl⟩⟩⟩
  · unfold Dk.new
    rw [List.getElem?_replicate, if_pos hi, List.getD_eq_getElem?_getD, List.getElem?_replicate, if_pos hi]
    rfl
  · unfold Dk.new
    rw [List.getElem?_replicate, if_pos hi]
theorem SafeI.did {d : Dk} {s t : List UInt8} (h : SafeI d s t) : d.did = d := by unfold Dk.did; rw [if_neg (by rw [h.fuse]; decide)]
theorem SafeI.there {d : Dk} {s t : List UInt8} (h : SafeI d s t) (i : Int) : d.there i = if i < 0 ∨ 9 ≤ i then 5 else 0 := by unfold Dk.there; rw [h.dead, h.dl]; rfl
theorem SafeI.put {d : Dk} {s t : List UInt8} (h : SafeI d s t) (i : Nat) (c : UInt8) : SafeI (d.put i (fullS c)) s (t.set i c) := by
  refine ⟨h.fuse, h.dead, h.sl, by rw [List.length_set]; exact h.tl, h.dl, by unfold Dk.put; rw [List.length_set]; exact h.wl, fun j hj => ?_⟩
  obtain ⟨h1, h2⟩ := h.at_ j hj
  refine ⟨h1, ?_⟩
  unfold Dk.put
  dsimp only
  by_cases e : i = j
  · subst e
    right
    rw [List.getElem?_set_self (by rw [h.wl]; exact hj), List.getD_eq_getElem?_getD, List.getElem?_set_self (by rw [h.tl]; exact hj)]
    rfl
  · rw [List.getElem?_set_ne e, List.getD_eq_getElem?_getD (l := t.set i c), List.getElem?_set_ne e, ← List.getD_eq_getElem?_getD]
    exact h2
theorem SafeI.write {d : Dk} {s t : List UInt8} (h : SafeI d s t) (i : Int) (c : UInt8) : d.write i (fullS c) = if i < 0 ∨ 9 ≤ i then (5, d) else (0, d.put i.toNat (fullS c)) := by
  unfold Dk.write
  rw [h.there, fullS_len]
  by_cases hi : i < 0 ∨ 9 ≤ i
  · rw [if_pos hi, if_pos (by decide), if_pos hi]
  · rw [if_neg hi, if_neg (by decide), if_neg (by decide), if_neg hi, (h.put i.toNat c).did]
theorem SafeI.flushed {d : Dk} {s t : List UInt8} (h : SafeI d s t) : SafeI d.flushed t t := by
  refine ⟨h.fuse, h.dead, h.tl, h.tl, by unfold Dk.flushed; dsimp only; rw [List.length_zipWith, h.dl, h.wl]; rfl, by unfold Dk.flushed; dsimp only; rw [List.length_map, h.wl], fun j hj => ?_⟩
  obtain ⟨h1, h2⟩ := h.at_ j hj
  unfold Dk.flushed
  dsimp only
  rw [List.getElem?_zipWith, List.getElem?_map, h1]
  rcases h2 with ⟨h2, e⟩ | h2
  · rw [h2, e]
    exact ⟨rfl, .inl ⟨rfl, rfl⟩⟩
  · rw [h2]
    exact ⟨rfl, .inl ⟨rfl, rfl⟩⟩
theorem SafeI.flush {d : Dk} {s t : List UInt8} (h : SafeI d s t) : d.flush = (0, d.flushed) := by unfold Dk.flush; rw [if_neg (by rw [h.dead]; decide), h.flushed.did]
/-- Behind a crash. -/
theorem SafeI.crash {d : Dk} {s t : List UInt8} (h : SafeI d s t) (keep : List Bool) (i : Nat) (hi : i < 9) :
    (d.crash keep).at_ i = fullS (s.getD i 0) ∧ (d.wait[i]? = some none → s.getD i 0 = t.getD i 0) ∨ (∃ l, d.wait[i]? = some (some l)) ∧ (d.crash keep).at_ i = fullS (t.getD i 0) := by
  obtain ⟨h1, h2⟩ := h.at_ i hi
  have hw : (d.crash keep).wait.getD i none = none := by
    unfold Dk.crash
    dsimp only
    rw [List.getD_eq_getElem?_getD, List.getElem?_map]
    cases d.wait[i]? <;> rfl
  have ha : (d.crash keep).at_ i = (keepS keep 0 d.safe d.wait).getD i [] := by
    unfold Dk.at_
    rw [hw]
    rfl
  rw [ha, List.getD_eq_getElem?_getD]
  rcases h2 with ⟨h2, e⟩ | h2
  · rcases keepS_at keep _ _ 0 i _ _ h1 h2 with h3 | ⟨y, hy, _⟩
    · left; rw [h3]; exact ⟨rfl, fun _ => e⟩
    · cases hy
  · rcases keepS_at keep _ _ 0 i _ _ h1 h2 with h3 | ⟨y, hy, h3⟩
    · left; rw [h3]; exact ⟨rfl, fun h4 => by rw [h2] at h4; cases h4⟩
    · cases hy
      right; rw [h3]; exact ⟨⟨_, h2⟩, rfl⟩
theorem SafeI.there_crash {d : Dk} {s t : List UInt8} (h : SafeI d s t) (keep : List Bool) : (d.crash keep).safe.length = 9 := by unfold Dk.crash; dsimp only; rw [keepS_len, h.dl]
theorem pendS_none : ∀ (ws : List (Option (List UInt8))) (j : Nat), pendS j (ws.map fun _ => none) = []
  | [], _ => rfl
  | _ :: ws, j => by unfold pendS; exact pendS_none ws (j + 1)
theorem crash_pending (d : Dk) (keep : List Bool) : (d.crash keep).pending = [] := pendS_none _ _
end Go.Proofs.YtlbldmpiaebeeaaDoor
