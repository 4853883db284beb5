/- What is written is read back: the words of a condition: plain laws. -/
import Derived.Test.YtogpmihepfnoaaaDoorPaU
import Derived.Test.YtogpmihepfnoaaaDoorRuT
namespace Go.Proofs.YtogpmihepfnoaaaDoor
open Go

/-- A word, wherever it stands. -/
structure Sh where
  kind : Int
  text : ByteArray
  n : Int
def Tk.sh (t : Tk) : Sh := ⟨t.kind, t.text, t.n⟩
/-- From a place on there are these words. -/
def AtS (ts : List Tk) (p : Nat) (l : List Sh) : Prop := ∃ r, (ts.drop p).map Tk.sh = l ++ r
theorem AtS.left {ts : List Tk} {p : Nat} {a b : List Sh} (h : AtS ts p (a ++ b)) : AtS ts p a := by
  obtain ⟨r, h⟩ := h
  exact ⟨b ++ r, by rw [h, List.append_assoc]⟩
theorem AtS.right {ts : List Tk} {p : Nat} {a b : List Sh} (h : AtS ts p (a ++ b)) : AtS ts (p + a.length) b := by
  obtain ⟨r, h⟩ := h
  refine ⟨r, ?_⟩
  rw [← List.drop_drop, List.map_drop, h, List.append_assoc, List.drop_left]
theorem AtS.head {ts : List Tk} {p : Nat} {s : Sh} {l : List Sh} (h : AtS ts p (s :: l)) : ∃ t, ts[p]? = some t ∧ t.sh = s := by
  obtain ⟨r, h⟩ := h
  cases hd : ts.drop p with
  | nil => rw [hd] at h; cases h
  | cons t q =>
    rw [hd] at h
    injection h with h1 h2
    refine ⟨t, ?_, h1⟩
    have := congrArg List.head? hd
    rwa [List.head?_drop] at this
theorem AtS.tail {ts : List Tk} {p : Nat} {s : Sh} {l : List Sh} (h : AtS ts p (s :: l)) : AtS ts (p + 1) l := AtS.right (a := [s]) h
/-- The next word is taken. -/
theorem take_at {ts : List Tk} {P : Tk → Bool} {p : Nat} {f : Int} {h : Sh} {l : List Sh} (ha : AtS ts p (h :: l)) (hf : 1 ≤ f) (hp : ∀ t : Tk, t.sh = h → P t = true) : ∃ t : Tk, t.sh = h ∧ takeT ts P ⟨p, f, 0⟩ = (t, ⟨p + 1, f - 1, 0⟩) := by
  obtain ⟨t, ht, hs⟩ := ha.head
  refine ⟨t, hs, ?_⟩
  have hb : burnD ⟨p, f, 0⟩ = ⟨p, f - 1, 0⟩ := by
    unfold burnD
    dsimp only
    rw [if_pos rfl, if_neg (by omega)]
  unfold takeT
  rw [hb, if_neg (by simp)]
  dsimp only
  rw [ht]
  dsimp only
  rw [if_pos (hp t hs)]
theorem is_at {ts : List Tk} {P : Tk → Bool} {p : Nat} {f : Int} {h : Sh} {l : List Sh} {b : Bool} (ha : AtS ts p (h :: l)) (hp : ∀ t : Tk, t.sh = h → P t = b) : isT ts P ⟨p, f, 0⟩ = b := by
  obtain ⟨t, ht, hs⟩ := ha.head
  unfold isT
  dsimp only
  rw [ht]
  simp [hp t hs]
/-- What stands with a word between, of words. -/
def shJoin (w : Sh) : List (List Sh) → List Sh
  | [] => []
  | [a] => a
  | a :: b :: r => a ++ w :: shJoin w (b :: r)
def wSh (m : ByteArray) : Sh := ⟨1, m, 0⟩
def opW (op : Int) : ByteArray := if op = 3 then wAnd else wOr
mutual
/-- A condition's words. -/
def shX : Ex → List Sh
  | .mk op days mile ks => if op = 1 then [⟨3, ba (textD days), days⟩, wSh wAfter, ⟨1, mile, 0⟩] else shJoin (wSh (opW op)) (shXL op ks)
def shXL (op : Int) : List Ex → List (List Sh)
  | [] => []
  | k :: ks => (if wrapB op k then ⟨4, ⟨#[40]⟩, 0⟩ :: (shX k ++ [⟨5, ⟨#[41]⟩, 0⟩]) else shX k) :: shXL op ks
end
def shP_ (op : Int) (k : Ex) : List Sh := if wrapB op k then ⟨4, ⟨#[40]⟩, 0⟩ :: (shX k ++ [⟨5, ⟨#[41]⟩, 0⟩]) else shX k
theorem shXL_map (op : Int) : ∀ ks : List Ex, shXL op ks = ks.map (shP_ op)
  | [] => by rw [shXL]; rfl
  | k :: ks => by rw [shXL, shXL_map op ks]; rfl
/-- A word does not come next. -/
def NoW (ts : List Tk) (m : ByteArray) (p : Nat) : Prop := ∀ f, isT ts (wdB m) ⟨p, f, 0⟩ = false
/-- What is read where these words stand, if what follows may follow. -/
def Back (ts : List Tk) (one : Pst → Ex × Pst) (Fol : Nat → Prop) (x : Ex) (l : List Sh) (c : Int) : Prop := ∀ (p : Nat) (f : Int), AtS ts p l → c ≤ f → Fol (p + l.length) → one ⟨p, f, 0⟩ = (x, ⟨p + l.length, f - c, 0⟩)
theorem wd_sh {m : ByteArray} {t : Tk} (h : t.sh = wSh m) : wdB m t = true := by
  obtain ⟨k, x, n, a⟩ := t
  unfold Tk.sh wSh at h
  injection h with h1 h2 h3
  dsimp only at h1 h2
  subst h1 h2
  simp [wdB]
/-- The words of those behind the first. -/
def shTail (m : ByteArray) (P : Ex → List Sh) (xs : List Ex) : List Sh := xs.flatMap fun x => wSh m :: P x
def fuTail (c : Ex → Int) : List Ex → Int
  | [] => 0
  | x :: xs => 1 + c x + fuTail c xs
theorem fuTail_nn {c : Ex → Int} : ∀ {xs : List Ex}, (∀ x ∈ xs, 0 ≤ c x) → 0 ≤ fuTail c xs
  | [], _ => Int.le_refl 0
  | x :: xs, h => by
    have h1 := h x (by simp)
    have h2 := fuTail_nn (xs := xs) fun y hy => h y (by simp [hy])
    rw [fuTail]
    omega
theorem sevL_back {ts : List Tk} {one : Pst → Ex × Pst} {Fol : Nat → Prop} {m : ByteArray} {P : Ex → List Sh} {c : Ex → Int} (hF : ∀ p l, AtS ts p (wSh m :: l) → Fol p) :
    ∀ (xs : List Ex) (n : Nat) (ks : List Ex) (p : Nat) (f : Int), (∀ x ∈ xs, Back ts one Fol x (P x) (c x) ∧ 0 ≤ c x) → xs.length ≤ n → AtS ts p (shTail m P xs) → fuTail c xs ≤ f → NoW ts m (p + (shTail m P xs).length) → Fol (p + (shTail m P xs).length) →
      sevL ts one m n ks ⟨p, f, 0⟩ = (ks ++ xs, ⟨p + (shTail m P xs).length, f - fuTail c xs, 0⟩)
  | [], n, ks, p, f, _, _, _, _, hN, _ => by
    have hN' : isT ts (wdB m) ⟨p, f, 0⟩ = false := by simpa [shTail] using hN f
    rw [sevL_end hN']
    simp [shTail, fuTail]
  | x :: xs, n, ks, p, f, hx, hn, ha, hf, hN, hFo => by
    obtain ⟨hb, hc⟩ := hx x (by simp)
    have hxs : ∀ y ∈ xs, Back ts one Fol y (P y) (c y) ∧ 0 ≤ c y := fun y hy => hx y (by simp [hy])
    have ht0 := fuTail_nn (c := c) (xs := xs) fun y hy => (hxs y hy).2
    rw [fuTail] at hf ⊢
    have e1 : shTail m P (x :: xs) = wSh m :: (P x ++ shTail m P xs) := by simp [shTail]
    rw [e1] at ha hN hFo ⊢
    match n, hn with
    | n + 1, hn =>
      rw [sevL, is_at ha (b := true) fun t h => wd_sh h, if_pos rfl]
      obtain ⟨t, _, e2⟩ := take_at (f := f) ha (by omega) fun t h => wd_sh h
      rw [e2]
      have ha1 := ha.tail
      have el : p + (wSh m :: (P x ++ shTail m P xs)).length = p + 1 + (P x).length + (shTail m P xs).length := by rw [List.length_cons, List.length_append]; omega
      rw [el] at hN hFo ⊢
      have hFx : Fol (p + 1 + (P x).length) := by
        cases xs with
        | nil => simpa [shTail] using hFo
        | cons y ys =>
          have h3 := ha1.right
          rw [show shTail m P (y :: ys) = wSh m :: (P y ++ shTail m P ys) by simp [shTail]] at h3
          exact hF _ _ h3
      rw [hb (p + 1) (f - 1) ha1.left (by omega) hFx]
      dsimp only
      rw [sevL_back hF xs n (ks ++ [x]) _ _ hxs (by simpa using hn) ha1.right (by omega) hN hFo]
      rw [List.append_assoc, show f - 1 - c x - fuTail c xs = f - (1 + c x + fuTail c xs) by omega]
      rfl
theorem AtS.len {ts : List Tk} {p : Nat} {l : List Sh} (h : AtS ts p l) : l.length ≤ ts.length := by
  obtain ⟨r, h⟩ := h
  have := congrArg List.length h
  rw [List.length_map, List.length_drop, List.length_append] at this
  omega
theorem shTail_len (m : ByteArray) (P : Ex → List Sh) : ∀ xs : List Ex, xs.length ≤ (shTail m P xs).length
  | [] => Nat.le_refl 0
  | x :: xs => by
    have := shTail_len m P xs
    rw [show shTail m P (x :: xs) = wSh m :: (P x ++ shTail m P xs) by simp [shTail], List.length_cons, List.length_cons, List.length_append]
    omega
/-- Several, with a word between. -/
theorem sevD_back {ts : List Tk} {one : Pst → Ex × Pst} {Fol : Nat → Prop} {m : ByteArray} {P : Ex → List Sh} {c : Ex → Int} (op : Int) (hF : ∀ p l, AtS ts p (wSh m :: l) → Fol p) (x : Ex) (xs : List Ex)
    (hx : ∀ y ∈ x :: xs, Back ts one Fol y (P y) (c y) ∧ 0 ≤ c y) : Back ts (sevD ts one op m) (fun p => NoW ts m p ∧ Fol p) (aloneD op (x :: xs)) (P x ++ shTail m P xs) (c x + fuTail c xs) := by
  intro p f ha hf hN
  obtain ⟨hN, hFo⟩ := hN
  have hn : xs.length ≤ ts.length := Nat.le_trans (shTail_len m P xs) ha.right.len
  obtain ⟨hb, hc⟩ := hx x (by simp)
  have hxs : ∀ y ∈ xs, Back ts one Fol y (P y) (c y) ∧ 0 ≤ c y := fun y hy => hx y (by simp [hy])
  have ht0 := fuTail_nn (c := c) (xs := xs) fun y hy => (hxs y hy).2
  rw [List.length_append, ← Nat.add_assoc] at hN hFo
  have hFx : Fol (p + (P x).length) := by
    cases xs with
    | nil => simpa [shTail] using hFo
    | cons y ys =>
      have h3 := ha.right
      rw [show shTail m P (y :: ys) = wSh m :: (P y ++ shTail m P ys) by simp [shTail]] at h3
      exact hF _ _ h3
  unfold sevD
  rw [hb p f ha.left (by omega) hFx]
  dsimp only
  rw [sevL_back hF xs (ts.length + 1) [x] _ _ hxs (by omega) ha.right (by omega) hN hFo]
  rw [List.length_append, ← Nat.add_assoc, show f - c x - fuTail c xs = f - (c x + fuTail c xs) by omega]
  rfl
mutual
/-- What fuel a condition's words cost, but for the one of the condition. -/
def fuX : Ex → Int
  | .mk op _ _ ks => if op = 1 then 3 else fuXL op ks - 1
def fuXL (op : Int) : List Ex → Int
  | [] => 0
  | k :: ks => (if wrapB op k then fuX k + 3 else fuX k) + 1 + fuXL op ks
end
theorem shJoin_tail (m : ByteArray) (P : Ex → List Sh) : ∀ (x : Ex) (xs : List Ex), shJoin (wSh m) ((x :: xs).map P) = P x ++ shTail m P xs
  | x, [] => by simp [shJoin, shTail]
  | x, y :: ys => by
    have h := shJoin_tail m P y ys
    rw [List.map_cons] at h
    rw [List.map_cons, List.map_cons, shJoin, h, show shTail m P (y :: ys) = wSh m :: (P y ++ shTail m P ys) by simp [shTail]]
/-- What a part costs. -/
def fuP (op : Int) (k : Ex) : Int := if wrapB op k then fuX k + 3 else fuX k
theorem fuXL_tail (op : Int) : ∀ xs : List Ex, fuXL op xs = fuTail (fuP op) xs
  | [] => by rw [fuXL, fuTail]
  | x :: xs => by rw [fuXL, fuTail, fuXL_tail op xs]; unfold fuP; omega
mutual
theorem fuX_nn : ∀ (x : Ex) (n d m : Nat), mayX x n d = some m → 0 ≤ fuX x
  | .mk op days mile ks, n, d, m, h => by
    rw [fuX]
    rcases mayX_kind h with ⟨rfl, h0, h1, h2⟩ | ⟨ho, hk2, hmL⟩
    · rw [if_pos rfl]; omega
    · rw [if_neg (by omega)]
      have h1 := fuXL_ge op ks _ _ _ hmL
      omega
theorem fuXL_ge : ∀ (op : Int) (ks : List Ex) (n d m : Nat), mayXL ks n d = some m → (ks.length : Int) ≤ fuXL op ks
  | _, [], _, _, _, _ => by rw [fuXL]; exact Int.le_refl 0
  | op, k :: ks, n, d, m, h => by
    rw [mayXL_cons] at h
    cases hk : mayX k n d with
    | none => rw [hk] at h; cases h
    | some m' =>
      rw [hk] at h
      have h1 := fuX_nn k n d m' hk
      have h2 := fuXL_ge op ks m' d m h
      rw [fuXL, List.length_cons]
      split <;> omega
end
end Go.Proofs.YtogpmihepfnoaaaDoor
