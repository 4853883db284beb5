/- What is written is read back: a condition: plain laws. -/
import Derived.Test.YtogpmihepfnoaaaDoorPaB
namespace Go.Proofs.YtogpmihepfnoaaaDoor
open Go

theorem mayX_all {op days : Int} {mile : ByteArray} {ks : List Ex} {n d m : Nat} (h : mayX (.mk op days mile ks) n d = some m) :
    1 ≤ d ∧ ((op = 1 ∧ 0 ≤ days ∧ days ≤ 1048576 ∧ mileD mile = true ∧ ks = []) ∨ ((op = 2 ∨ op = 3) ∧ days = 0 ∧ mile = ⟨#[]⟩ ∧ 2 ≤ ks.length ∧ mayXL ks (n - 1) (d - 1) = some m)) := by
  by_cases h0 : n = 0 ∨ d = 0
  · rw [mayX_0 h0] at h; cases h
  · refine ⟨by omega, ?_⟩
    by_cases ho : op = 1
    · subst ho
      rw [mayX_1 h0] at h
      split at h
      · rename_i hx
        obtain ⟨h1, h2, h3, h4⟩ := hx
        exact .inl ⟨rfl, h1, h2, h3, List.eq_nil_of_length_eq_zero h4⟩
      · cases h
    · rw [mayX_2 h0 ho] at h
      split at h
      · rename_i hx
        obtain ⟨h1, h2, h3, h4⟩ := hx
        exact .inr ⟨h1, h2, str_zero h3, h4, h⟩
      · cases h
theorem kind_sh {k : Int} {x : ByteArray} {n : Int} {t : Tk} (h : t.sh = ⟨k, x, n⟩) : t.kind = k ∧ t.text = x ∧ t.n = n := by
  unfold Tk.sh at h
  injection h with h1 h2 h3
  exact ⟨h1, h2, h3⟩
theorem leaf_back (ts : List Tk) (cond : Pst → Ex × Pst) {days : Int} {mile : ByteArray} (hm : mileD mile = true) : Back ts (factD ts cond) (fun _ => True) (.mk 1 days mile []) (shX (.mk 1 days mile [])) 3 := by
  intro p f ha hf _
  rw [shX, if_pos rfl] at ha ⊢
  have i1 : isT ts (kindB 4) ⟨p, f, 0⟩ = false := is_at ha fun t h => by
    obtain ⟨h1, _⟩ := kind_sh h
    simp [kindB, h1]
  unfold factD
  rw [i1, if_neg (by simp)]
  obtain ⟨t1, s1, e1⟩ := take_at (P := kindB 3) (f := f) ha (by omega) fun t h => by
    obtain ⟨h1, _⟩ := kind_sh h
    simp [kindB, h1]
  rw [e1]
  obtain ⟨t2, s2, e2⟩ := take_at (P := wdB wAfter) (f := f - 1) ha.tail (by omega) fun t h => wd_sh h
  dsimp only
  rw [e2]
  obtain ⟨t3, s3, e3⟩ := take_at (P := mileB) (f := f - 1 - 1) ha.tail.tail (by omega) fun t h => by
    obtain ⟨h1, h2, _⟩ := kind_sh h
    simp [mileB, h1, h2, hm]
  dsimp only
  rw [e3]
  obtain ⟨_, _, g1⟩ := kind_sh s1
  obtain ⟨_, g2, _⟩ := kind_sh s3
  dsimp only
  rw [g1, g2]
  rw [show f - 1 - 1 - 1 = f - 3 by omega]
  rfl
/-- What must not follow a condition. -/
def NoC (ts : List Tk) (p : Nat) : Prop := NoW ts wOr p ∧ NoW ts wAnd p ∧ True
theorem now_of {ts : List Tk} {p : Nat} {s : Sh} {l : List Sh} {m : ByteArray} (ha : AtS ts p (s :: l)) (h : s.kind ≠ 1 ∨ s.text ≠ m) : NoW ts m p := fun f => is_at ha fun t ht => by
  subst ht
  rcases h with h | h
  · have : ¬ t.kind = 1 := h
    simp [wdB, this]
  · have : ¬ t.text = m := h
    simp [wdB, this]
theorem wrap_back {ts : List Tk} {cond : Pst → Ex × Pst} {x : Ex} (hc : Back ts cond (NoC ts) x (shX x) (fuX x + 1)) (h0 : 0 ≤ fuX x) : Back ts (factD ts cond) (fun _ => True) x (⟨4, ⟨#[40]⟩, 0⟩ :: (shX x ++ [⟨5, ⟨#[41]⟩, 0⟩])) (fuX x + 3) := by
  intro p f ha hf _
  have i1 : isT ts (kindB 4) ⟨p, f, 0⟩ = true := is_at ha fun t h => by
    obtain ⟨h1, _⟩ := kind_sh h
    simp [kindB, h1]
  unfold factD
  rw [i1, if_pos rfl]
  obtain ⟨t1, s1, e1⟩ := take_at (P := kindB 4) (f := f) ha (by omega) fun t h => by
    obtain ⟨h1, _⟩ := kind_sh h
    simp [kindB, h1]
  rw [e1]
  dsimp only
  have h5 := ha.tail.right
  rw [hc (p + 1) (f - 1) ha.tail.left (by omega) ⟨now_of h5 (.inl (by decide)), now_of h5 (.inl (by decide)), trivial⟩]
  dsimp only
  obtain ⟨t2, s2, e2⟩ := take_at (P := kindB 5) (f := f - 1 - (fuX x + 1)) h5 (by omega) fun t h => by
    obtain ⟨h1, _⟩ := kind_sh h
    simp [kindB, h1]
  rw [e2, List.length_cons, List.length_append, List.length_singleton, show f - 1 - (fuX x + 1) - 1 = f - (fuX x + 3) by omega, show p + 1 + (shX x).length + 1 = p + ((shX x).length + 1 + 1) by omega]
theorem mayXL_mem {ks : List Ex} {n d m : Nat} (h : mayXL ks n d = some m) (x : Ex) (hx : x ∈ ks) : ∃ n' m', mayX x n' d = some m' := by
  obtain ⟨k, hk⟩ := List.getElem?_of_mem hx
  obtain ⟨n', m', _, h'⟩ := mayXL_at ks n d m k x h hk
  exact ⟨n', m', h'⟩
/-- A condition is read back. -/
def CondB (ts : List Tk) (K : Nat) : Prop := ∀ (x : Ex) (n d m : Nat), mayX x n d = some m → d ≤ K → Back ts (condD ts K) (NoC ts) x (shX x) (fuX x + 1)
theorem part_fact {ts : List Tk} {K : Nat} (HC : CondB ts K) (x : Ex) (n d m : Nat) (h : mayX x n d = some m) (hd : x.op ≠ 1 → d ≤ K) : Back ts (factD ts (condD ts K)) (fun _ => True) x (shP_ 3 x) (fuP 3 x) ∧ 0 ≤ fuP 3 x := by
  have h0 := fuX_nn x n d m h
  obtain ⟨op, days, mile, ks⟩ := x
  obtain ⟨hd1, ⟨rfl, _, _, hm, rfl⟩ | ⟨ho, _, _, hk, hL⟩⟩ := mayX_all h
  · have e1 : shP_ 3 (.mk 1 days mile []) = shX (.mk 1 days mile []) := by unfold shP_ wrapB; rfl
    have e2 : fuP 3 (.mk 1 days mile []) = 3 := by unfold fuP wrapB; rw [fuX]; rfl
    rw [e1, e2]
    exact ⟨leaf_back ts _ hm, by omega⟩
  · have hw : wrapB 3 (.mk op days mile ks) = true := by unfold wrapB; rcases ho with rfl | rfl <;> rfl
    have e1 : shP_ 3 (.mk op days mile ks) = ⟨4, ⟨#[40]⟩, 0⟩ :: (shX (.mk op days mile ks) ++ [⟨5, ⟨#[41]⟩, 0⟩]) := by unfold shP_; rw [if_pos hw]
    have e2 : fuP 3 (.mk op days mile ks) = fuX (.mk op days mile ks) + 3 := by unfold fuP; rw [if_pos hw]
    rw [e1, e2]
    exact ⟨wrap_back (HC _ n d m h (hd (by show op ≠ 1; omega))) h0, by omega⟩
theorem one_term {ts : List Tk} {K : Nat} {x : Ex} (hf : Back ts (factD ts (condD ts K)) (fun _ => True) x (shP_ 3 x) (fuP 3 x) ∧ 0 ≤ fuP 3 x) : Back ts (sevD ts (factD ts (condD ts K)) 3 wAnd) (fun p => NoW ts wAnd p ∧ True) x (shP_ 3 x) (fuP 3 x) := by
  have h := sevD_back (ts := ts) (m := wAnd) (P := shP_ 3) (c := fuP 3) (Fol := fun _ => True) (one := factD ts (condD ts K)) 3 (fun _ _ _ => trivial) x [] (fun y hy => by simp at hy; subst hy; exact hf)
  have e1 : shP_ 3 x ++ shTail wAnd (shP_ 3) [] = shP_ 3 x := by simp [shTail]
  have e2 : fuP 3 x + fuTail (fuP 3) [] = fuP 3 x := by rw [fuTail]; omega
  rw [e1, e2] at h
  exact h
theorem part_term {ts : List Tk} {K : Nat} (HC : CondB ts K) (x : Ex) (n d m : Nat) (h : mayX x n d = some m) (hd : d ≤ K + 1) (h2 : x.op = 2 → d ≤ K) : Back ts (sevD ts (factD ts (condD ts K)) 3 wAnd) (fun p => NoW ts wAnd p ∧ True) x (shP_ 2 x) (fuP 2 x) ∧ 0 ≤ fuP 2 x := by
  have h0 := fuX_nn x n d m h
  obtain ⟨op, days, mile, ks⟩ := x
  obtain ⟨hd1, ⟨rfl, _, _, hm, rfl⟩ | ⟨rfl | rfl, rfl, rfl, hk, hL⟩⟩ := mayX_all h
  · have hf := part_fact HC _ n d m h (fun e => absurd rfl e)
    exact ⟨one_term hf, hf.2⟩
  · have hf := part_fact HC _ n d m h (fun _ => h2 rfl)
    exact ⟨one_term hf, hf.2⟩
  · match ks, hk, hL, h0 with
    | k1 :: k2 :: r, hk, hL, h0 =>
      have hx : ∀ y ∈ k1 :: k2 :: r, Back ts (factD ts (condD ts K)) (fun _ => True) y (shP_ 3 y) (fuP 3 y) ∧ 0 ≤ fuP 3 y := fun y hy => by
        obtain ⟨n', m', h'⟩ := mayXL_mem hL y hy
        exact part_fact HC y n' (d - 1) m' h' (fun _ => by omega)
      have hb := sevD_back (ts := ts) (m := wAnd) (P := shP_ 3) (c := fuP 3) (Fol := fun _ => True) (one := factD ts (condD ts K)) 3 (fun _ _ _ => trivial) k1 (k2 :: r) hx
      have hw3 : wrapB 2 (.mk 3 0 ⟨#[]⟩ (k1 :: k2 :: r)) = false := by unfold wrapB; rfl
      have e1 : shP_ 2 (.mk 3 0 ⟨#[]⟩ (k1 :: k2 :: r)) = shP_ 3 k1 ++ shTail wAnd (shP_ 3) (k2 :: r) := by
        rw [← shJoin_tail, ← shXL_map]
        unfold shP_
        rw [if_neg (by rw [hw3]; simp), shX, if_neg (by omega)]
        rfl
      have e2 : fuP 2 (.mk 3 0 ⟨#[]⟩ (k1 :: k2 :: r)) = fuP 3 k1 + fuTail (fuP 3) (k2 :: r) := by
        unfold fuP
        rw [if_neg (by rw [hw3]; simp), fuX, if_neg (by omega), fuXL_tail, fuTail]
        unfold fuP
        omega
      rw [e1, e2]
      refine ⟨hb, ?_⟩
      rw [← e2]
      unfold fuP
      rw [if_neg (by rw [hw3]; simp)]
      exact h0
theorem cond_step {ts : List Tk} {K : Nat} {x : Ex} {l : List Sh} {c : Int} (hb : Back ts (sevD ts (sevD ts (factD ts (condD ts K)) 3 wAnd) 2 wOr) (fun p => NoW ts wOr p ∧ NoW ts wAnd p ∧ True) x l c) (h0 : 0 ≤ c) : Back ts (condD ts (K + 1)) (NoC ts) x l (c + 1) := by
  intro p f ha hf hN
  have e : burnD ⟨p, f, 0⟩ = ⟨p, f - 1, 0⟩ := by
    unfold burnD
    dsimp only
    rw [if_pos rfl, if_neg (by omega)]
  rw [condD, e, if_neg (by simp), hb p (f - 1) ha (by omega) hN, show f - 1 - c = f - (c + 1) by omega]
theorem cond_back (ts : List Tk) : ∀ K : Nat, CondB ts K
  | 0 => fun x n d m h hd => by
    obtain ⟨op, days, mile, ks⟩ := x
    have := (mayX_all h).1
    omega
  | K + 1 => fun x n d m h hd => by
    have HC := cond_back ts K
    have h0 := fuX_nn x n d m h
    have hor : ∀ p l, AtS ts p (wSh wOr :: l) → NoW ts wAnd p ∧ True := fun p l ha => ⟨now_of ha (.inr (by decide)), trivial⟩
    by_cases h2 : x.op = 2
    · obtain ⟨op, days, mile, ks⟩ := x
      obtain rfl : op = 2 := h2
      obtain ⟨hd1, ⟨h1, _⟩ | ⟨_, rfl, rfl, hk, hL⟩⟩ := mayX_all h
      · omega
      · match ks, hk, hL, h0 with
        | k1 :: k2 :: r, hk, hL, h0 =>
          have hx : ∀ y ∈ k1 :: k2 :: r, Back ts (sevD ts (factD ts (condD ts K)) 3 wAnd) (fun p => NoW ts wAnd p ∧ True) y (shP_ 2 y) (fuP 2 y) ∧ 0 ≤ fuP 2 y := fun y hy => by
            obtain ⟨n', m', h'⟩ := mayXL_mem hL y hy
            exact part_term HC y n' (d - 1) m' h' (by omega) (fun _ => by omega)
          have hb := sevD_back (ts := ts) (m := wOr) (P := shP_ 2) (c := fuP 2) (Fol := fun p => NoW ts wAnd p ∧ True) (one := sevD ts (factD ts (condD ts K)) 3 wAnd) 2 hor k1 (k2 :: r) hx
          have e1 : shX (.mk 2 0 ⟨#[]⟩ (k1 :: k2 :: r)) = shP_ 2 k1 ++ shTail wOr (shP_ 2) (k2 :: r) := by
            rw [← shJoin_tail, ← shXL_map, shX, if_neg (by omega)]
            rfl
          have e2 : fuX (.mk 2 0 ⟨#[]⟩ (k1 :: k2 :: r)) = fuP 2 k1 + fuTail (fuP 2) (k2 :: r) := by
            rw [fuX, if_neg (by omega), fuXL_tail, fuTail]
            omega
          rw [e2] at h0 ⊢
          rw [e1]
          exact cond_step hb h0
    · have ht := part_term HC x n d m h hd (fun e => absurd e h2)
      have hb := sevD_back (ts := ts) (m := wOr) (P := shP_ 2) (c := fuP 2) (Fol := fun p => NoW ts wAnd p ∧ True) (one := sevD ts (factD ts (condD ts K)) 3 wAnd) 2 hor x [] (fun y hy => by simp at hy; subst hy; exact ht)
      have hw : wrapB 2 x = false := by unfold wrapB; simp [h2]
      have e1 : shP_ 2 x ++ shTail wOr (shP_ 2) [] = shX x := by unfold shP_; rw [hw]; simp [shTail]
      have e2 : fuP 2 x + fuTail (fuP 2) [] = fuX x := by rw [fuTail]; unfold fuP; rw [hw, if_neg (by simp)]; omega
      rw [e1, e2] at hb
      exact cond_step hb h0
end Go.Proofs.YtogpmihepfnoaaaDoor
