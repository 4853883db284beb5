/- What is written is read back: rules: plain laws. -/
import Derived.Test.YtogpmihepfnoaaaDoorPaC
namespace Go.Proofs.YtogpmihepfnoaaaDoor
open Go

def actW (n : Int) : ByteArray := if n = 1 then wDestroy else if n = 2 then wReview else wKeep
def shC (c : ByteArray) : List Sh := if c.size = 0 then [wSh wDefault] else [wSh wClass, ⟨2, c, 0⟩]
def fuC (c : ByteArray) : Int := if c.size = 0 then 1 else 2
/-- A rule's words. -/
def shR (r : Ru) : List Sh := shC r.cls ++ (wSh wKeep :: (shX r.wh ++ [wSh wThen, wSh (actW r.act), ⟨6, ⟨#[59]⟩, 0⟩]))
def fuR (r : Ru) : Int := fuC r.cls + fuX r.wh + 5
theorem class_back {ts : List Tk} {c : ByteArray} {p : Nat} {f : Int} {l : List Sh} (ha : AtS ts p (shC c ++ l)) (hf : fuC c ≤ f) : classD ts ⟨p, f, 0⟩ = (c, ⟨p + (shC c).length, f - fuC c, 0⟩) := by
  unfold shC fuC at *
  unfold classD
  by_cases h : c.size = 0
  · rw [if_pos h] at ha hf ⊢
    rw [if_pos h, is_at (b := false) ha fun t ht => by
      obtain ⟨_, h2, _⟩ := kind_sh ht
      have : ¬ t.text = wClass := by rw [h2]; decide
      simp [wdB, this], if_neg (by simp)]
    obtain ⟨t, _, e⟩ := take_at (P := wdB wDefault) (f := f) ha (by omega) fun t ht => wd_sh ht
    rw [e, str_zero h]
    rfl
  · rw [if_neg h] at ha hf ⊢
    rw [if_neg h, is_at (b := true) ha fun t ht => wd_sh ht, if_pos rfl]
    obtain ⟨t, _, e⟩ := take_at (P := wdB wClass) (f := f) ha (by omega) fun t ht => wd_sh ht
    rw [e]
    dsimp only
    obtain ⟨t2, s2, e2⟩ := take_at (P := kindB 2) (f := f - 1) (AtS.tail ha) (by omega) fun t ht => by
      obtain ⟨h1, _⟩ := kind_sh ht
      simp [kindB, h1]
    rw [e2]
    dsimp only
    obtain ⟨_, g, _⟩ := kind_sh s2
    rw [g, show f - 1 - 1 = f - 2 by omega]
    rfl
theorem act_back {ts : List Tk} {n : Int} {p : Nat} {f : Int} {l : List Sh} (hn : 1 ≤ n ∧ n ≤ 3) (ha : AtS ts p (wSh (actW n) :: l)) (hf : 1 ≤ f) : actD ts ⟨p, f, 0⟩ = (n, ⟨p + 1, f - 1, 0⟩) := by
  have hno : ∀ m : ByteArray, actW n ≠ m → isT ts (wdB m) ⟨p, f, 0⟩ = false := fun m hm => now_of ha (.inr hm) f
  have hyes : isT ts (wdB (actW n)) ⟨p, f, 0⟩ = true := is_at ha fun t ht => wd_sh ht
  obtain ⟨t, _, e⟩ := take_at (P := wdB (actW n)) (f := f) ha hf fun t ht => wd_sh ht
  unfold actD
  rcases (by omega : n = 1 ∨ n = 2 ∨ n = 3) with rfl | rfl | rfl
  · rw [show actW 1 = wDestroy from rfl] at hyes e
    rw [hyes, if_pos rfl, e]
  · rw [show actW 2 = wReview from rfl] at hyes e
    rw [hno wDestroy (by decide), if_neg (by simp), hyes, if_pos rfl, e]
  · rw [show actW 3 = wKeep from rfl] at e
    rw [hno wDestroy (by decide), if_neg (by simp), hno wReview (by decide), if_neg (by simp), e]
theorem rule_back {ts : List Tk} {r : Ru} {p : Nat} {f : Int} {l : List Sh} (hr : okR r = true) (ha : AtS ts p (shR r ++ l)) (hf : fuR r ≤ f) : ruleD ts ⟨p, f, 0⟩ = (r, ⟨p + (shR r).length, f - fuR r, 0⟩) := by
  unfold okR at hr
  simp only [Bool.and_eq_true, decide_eq_true_eq] at hr
  obtain ⟨⟨ha1, _⟩, hm⟩ := hr
  obtain ⟨m, hm⟩ := Option.isSome_iff_exists.1 hm
  have h0 := fuX_nn _ _ _ _ hm
  obtain ⟨c, x, a⟩ := r
  dsimp only at ha1 hm h0
  unfold shR fuR at *
  dsimp only at ha hf ⊢
  have hc0 : 0 ≤ fuC c := by unfold fuC; split <;> omega
  rw [List.append_assoc] at ha
  have h1 := ha.right
  rw [List.cons_append, List.append_assoc] at h1
  have h2 := h1.tail
  have h3 := h2.right
  unfold ruleD
  dsimp only
  rw [class_back ha (by omega)]
  obtain ⟨t1, _, e1⟩ := take_at (P := wdB wKeep) (f := f - fuC c) h1 (by omega) fun t ht => wd_sh ht
  dsimp only
  rw [e1]
  dsimp only
  rw [cond_back ts 8 x 24 8 m hm (Nat.le_refl _) _ (f - fuC c - 1) h2.left (by omega) ⟨now_of h3 (.inr (by decide)), now_of h3 (.inr (by decide)), trivial⟩]
  dsimp only
  obtain ⟨t2, _, e2⟩ := take_at (P := wdB wThen) (f := f - fuC c - 1 - (fuX x + 1)) h3 (by omega) fun t ht => wd_sh ht
  rw [e2]
  dsimp only
  rw [act_back ha1 h3.tail (by omega)]
  dsimp only
  obtain ⟨t3, _, e3⟩ := take_at (P := kindB 6) (f := f - fuC c - 1 - (fuX x + 1) - 1 - 1) h3.tail.tail (by omega) fun t ht => by
    obtain ⟨g, _⟩ := kind_sh ht
    simp [kindB, g]
  rw [e3, show f - fuC c - 1 - (fuX x + 1) - 1 - 1 - 1 = f - (fuC c + fuX x + 5) by omega]
  simp only [List.length_append, List.length_cons, List.length_nil]
  rw [show p + (shC c).length + 1 + (shX x).length + 1 + 1 + 1 = p + ((shC c).length + ((shX x).length + (0 + 1 + 1 + 1) + 1)) by omega]
theorem fuR_nn {r : Ru} (hr : okR r = true) : 0 ≤ fuR r := by
  unfold okR at hr
  simp only [Bool.and_eq_true, decide_eq_true_eq] at hr
  obtain ⟨⟨_, _⟩, hm⟩ := hr
  obtain ⟨m, hm⟩ := Option.isSome_iff_exists.1 hm
  have h0 := fuX_nn _ _ _ _ hm
  unfold fuR fuC
  split <;> omega
def fuRs : List Ru → Int
  | [] => 0
  | r :: rs => fuR r + fuRs rs
theorem fuRs_nn : ∀ {rs : List Ru}, (∀ r ∈ rs, okR r = true) → 0 ≤ fuRs rs
  | [], _ => Int.le_refl 0
  | r :: rs, h => by
    have h1 := fuR_nn (h r (by simp))
    have h2 := fuRs_nn (rs := rs) fun x hx => h x (by simp [hx])
    rw [fuRs]
    omega
theorem shR_pos (r : Ru) : 1 ≤ (shR r).length := by
  unfold shR
  rw [List.length_append, List.length_cons]
  omega
theorem rules_back {ts : List Tk} : ∀ (rs : List Ru) (n : Nat) (out : List Ru) (p : Nat) (f : Int), (∀ r ∈ rs, okR r = true) → rs.length ≤ n → AtS ts p (rs.flatMap shR) → p + (rs.flatMap shR).length = ts.length → fuRs rs ≤ f →
    rulesD ts n out ⟨p, f, 0⟩ = (out ++ rs, ⟨ts.length, f - fuRs rs, 0⟩)
  | [], n, out, p, f, _, _, _, hp, _ => by
    obtain rfl : p = ts.length := by simpa using hp
    have e : rulesD ts n out ⟨ts.length, f, 0⟩ = (out, ⟨ts.length, f, 0⟩) := by
      cases n with
      | zero => rfl
      | succ n => rw [rulesD, if_neg (by simp)]
    rw [e]
    simp [fuRs]
  | r :: rs, n, out, p, f, hok, hn, ha, hp, hf => by
    have hr := hok r (by simp)
    have hrs : ∀ x ∈ rs, okR x = true := fun x hx => hok x (by simp [hx])
    have h1 := fuR_nn hr
    have h2 := fuRs_nn hrs
    have h3 := shR_pos r
    rw [List.flatMap_cons] at ha hp
    rw [List.length_append] at hp
    rw [fuRs] at hf ⊢
    match n, hn with
    | n + 1, hn =>
      rw [rulesD, if_pos ⟨rfl, by dsimp only; omega⟩, rule_back hr ha (by omega)]
      dsimp only
      rw [rules_back rs n (out ++ [r]) _ _ hrs (by simpa using hn) ha.right (by omega) (by omega), List.append_assoc, show f - fuR r - fuRs rs = f - (fuR r + fuRs rs) by omega]
      rfl
/-- What is written, read: if the words are these. -/
theorem run_back {ts : List Tk} {rs : List Ru} {f : Int} (hok : ∀ r ∈ rs, okR r = true) (hs : ts.map Tk.sh = rs.flatMap shR) (hf : fuRs rs ≤ f) : runP ts f = (rs, ⟨ts.length, f - fuRs rs, 0⟩) := by
  have hl : (rs.flatMap shR).length = ts.length := by rw [← hs, List.length_map]
  have hn : rs.length ≤ (rs.flatMap shR).length := by
    clear hs hl hf hok
    induction rs with
    | nil => simp
    | cons r rs ih =>
      have := shR_pos r
      rw [List.flatMap_cons, List.length_append, List.length_cons]
      omega
  have h := rules_back (ts := ts) rs (ts.length + 1) [] 0 f hok (by omega) ⟨[], by rw [List.drop_zero, hs, List.append_nil]⟩ (by omega) hf
  rw [List.nil_append] at h
  exact h
end Go.Proofs.YtogpmihepfnoaaaDoor
