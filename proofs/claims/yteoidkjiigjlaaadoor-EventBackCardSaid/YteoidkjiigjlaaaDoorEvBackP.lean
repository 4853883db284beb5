/- Events: what was put is got, and back; no two that name something have one text: the plain laws (no program). -/
import Derived.Test.YteoidkjiigjlaaaDoorEvGet
import Derived.Test.YteoidkjiigjlaaaDoorSpanN
namespace Go.Proofs.YteoidkjiigjlaaaDoor
open Go

theorem valN_beL : ∀ n : Nat, valN 0 (beL n) = n := by
  intro n
  induction n using Nat.strongRecOn with
  | _ n ih =>
    rcases Nat.eq_zero_or_pos n with rfl | hp
    · rw [beL_zero]; rfl
    · rw [beL_pos hp, valN_snoc, ih (n / 256) (by omega)]
      simp
      omega
theorem beL_ne {n : Nat} (h : 0 < n) : beL n ≠ [] := by rw [beL_pos h]; simp
theorem beL_head : ∀ n : Nat, 0 < n → (beL n).getD 0 0 ≠ 0 := by
  intro n
  induction n using Nat.strongRecOn with
  | _ n ih =>
    intro hp
    rw [beL_pos hp]
    rcases Nat.eq_zero_or_pos (n / 256) with h0 | h0
    · rw [h0, beL_zero]
      intro h
      have := congrArg UInt8.toNat h
      simp at this
      omega
    · have := ih (n / 256) (by omega) h0
      have hn := beL_ne h0
      cases hb : beL (n / 256) with
      | nil => exact absurd hb hn
      | cons x r =>
        rw [hb] at this
        simpa using this
/-- The number of bytes whose head is not zero has these bytes. -/
theorem beL_valN (l : List UInt8) : (0 < l.length → l.getD 0 0 ≠ 0) → beL (valN 0 l) = l := by
  refine rev_ind (p := fun l => (0 < l.length → l.getD 0 0 ≠ 0) → beL (valN 0 l) = l) (fun _ => beL_zero) ?_ l
  intro l c ih h
  have hh := h (by simp)
  have hc := c.toNat_lt
  have hpos : 0 < valN 0 (l ++ [c]) := by
    rw [valN_snoc]
    rcases Nat.eq_zero_or_pos (valN 0 l) with h0 | h0
    · rcases Nat.eq_zero_or_pos c.toNat with hz | hz
      · exfalso
        cases l with
        | nil => exact hh (UInt8.toNat_inj.mp (by simpa using hz))
        | cons x r =>
          have hx : beL (valN 0 (x :: r)) = x :: r := ih (fun _ => by simpa using hh)
          rw [h0, beL_zero] at hx
          cases hx
      · omega
    · omega
  rw [beL_pos hpos, valN_snoc]
  have e1 : (valN 0 l * 256 + c.toNat) / 256 = valN 0 l := by omega
  have e2 : (valN 0 l * 256 + c.toNat) % 256 = c.toNat := by omega
  rw [e1, e2]
  have hl : beL (valN 0 l) = l := by
    apply ih
    intro hp
    cases l with
    | nil => simp at hp
    | cons x r => simpa using hh
  rw [hl]
  simp

theorem takeD_app (a r : List UInt8) : takeD (false, a ++ r) (a.length : Nat) = (a, false, r) := by
  rw [takeD, if_neg (by simp; omega)]
  simp
theorem takeD_app' {n : Nat} {a r : List UInt8} (h : n = a.length) : takeD (false, a ++ r) (n : Nat) = (a, false, r) := by rw [h]; exact takeD_app a r
theorem takeD_back {s : Rs} {n : Nat} {a r : List UInt8} (h : takeD s (n : Nat) = (a, false, r)) : s = (false, a ++ r) ∧ a.length = n := by
  unfold takeD at h
  split at h
  · cases h
  · rename_i h0
    obtain ⟨f, l⟩ := s
    have h1 : f = false := by
      cases f with
      | false => rfl
      | true => exact absurd (.inl rfl) h0
    subst h1
    have h2 : ¬ ((l.length : Int) < n) := fun h => h0 (.inr (.inr h))
    simp only [Prod.mk.injEq] at h
    obtain ⟨ha, _, hr⟩ := h
    refine ⟨?_, ?_⟩
    · rw [← ha, ← hr, List.take_append_drop]
    · rw [← ha]; simp; omega
theorem numR_app (n : Nat) (r : List UInt8) (h : n < 18446744073709551616) : numR (false, numB n ++ r) = (n, false, r) := by
  have hl := beL_len8 n h
  have e1 : takeD (false, numB n ++ r) 1 = ([UInt8.ofNat (beL n).length], false, beL n ++ r) := takeD_app [UInt8.ofNat (beL n).length] (beL n ++ r)
  have e2 : (UInt8.ofNat (beL n).length).toNat = (beL n).length := by simp; omega
  unfold numR
  rw [e1]
  simp only [List.getD_cons_zero, e2]
  rw [if_neg (by simp; omega), takeD_app]
  simp only
  rw [if_neg, valN_beL]
  rintro (h0 | ⟨h0, h1⟩)
  · cases h0
  · rcases Nat.eq_zero_or_pos n with hz | hz
    · subst hz; rw [beL_zero] at h0; simp at h0
    · exact beL_head n hz h1
theorem numR_back {s : Rs} {n : Nat} {r : List UInt8} (h : numR s = (n, false, r)) : s = (false, numB n ++ r) := by
  unfold numR at h
  dsimp only at h
  split at h
  · cases h
  · rename_i h0
    split at h
    · cases h
    · rename_i h1
      rcases ht : takeD s 1 with ⟨a, f, t⟩
      rw [ht] at h h0 h1
      have hf : f = false := by
        cases f with
        | false => rfl
        | true => exact absurd (.inl rfl) h0
      subst hf
      obtain ⟨rfl, ha⟩ := takeD_back (n := 1) ht
      obtain ⟨b, rfl⟩ : ∃ b, a = [b] := by
        match a, ha with
        | [b], _ => exact ⟨b, rfl⟩
      rcases hu : takeD (false, t) ([b].getD 0 0).toNat with ⟨a2, f2, t2⟩
      simp only at h h1
      rw [hu] at h h1
      have hf : f2 = false := by
        cases f2 with
        | false => rfl
        | true => exact absurd (.inl rfl) h1
      subst hf
      obtain ⟨e, ha2⟩ := takeD_back hu
      obtain ⟨_, rfl⟩ := Prod.mk.inj e
      simp only [Prod.mk.injEq] at h
      obtain ⟨rfl, _, rfl⟩ := h
      have hb : beL (valN 0 a2) = a2 := beL_valN a2 fun hp h2 => h1 (.inr ⟨hp, h2⟩)
      rw [numB, hb, ha2]
      simp
theorem countR_app (n m : Nat) (r : List UInt8) (h : n ≤ m) (hm : m < 18446744073709551616) : countR (false, numB n ++ r) m = (n, false, r) := by
  unfold countR
  rw [numR_app n r (by omega)]
  simp only
  rw [if_neg (by omega)]
theorem countR_back {s : Rs} {n m : Nat} {r : List UInt8} (h : countR s m = (n, false, r)) : s = (false, numB n ++ r) ∧ n ≤ m := by
  unfold countR at h
  dsimp only at h
  split at h
  · cases h
  · rename_i h0
    rw [h] at h0
    exact ⟨numR_back h, by simp at h0; omega⟩
theorem textR_app (l : List UInt8) (m : Nat) (r : List UInt8) (h : l.length ≤ m) (hm : m < 18446744073709551616) : textR (false, textB l ++ r) m = (l, false, r) := by
  unfold textR textB
  rw [List.append_assoc, countR_app _ m _ h hm]
  exact takeD_app l r
theorem textR_back {s : Rs} {m : Nat} {l r : List UInt8} (h : textR s m = (l, false, r)) : s = (false, textB l ++ r) := by
  unfold textR at h
  dsimp only at h
  rcases hc : countR s m with ⟨n, f, t⟩
  rw [hc] at h
  obtain ⟨e, hl⟩ := takeD_back h
  obtain ⟨rfl, rfl⟩ := Prod.mk.inj e
  obtain ⟨rfl, _⟩ := countR_back hc
  rw [textB, hl, List.append_assoc]

theorem get_put {k t : Int} {a b : ByteArray} (hm : mayD k t a b = true) : getD_ (evL k t a b) = (⟨k, t, a, b⟩, 0) := by
  obtain ⟨k1, k2, t0, t1, na, nb⟩ := may_true hm
  have sa := nm_size a na
  have sb := nm_size b nb
  have la : a.data.toList.length ≤ 16 := by simpa using sa
  have lb : b.data.toList.length ≤ 16 := by simpa using sb
  have ht : takeD (false, evL k t a b) 1 = ([UInt8.ofNat k.toNat], false, numB t.toNat ++ (textB a.data.toList ++ (textB b.data.toList ++ []))) := by
    have : evL k t a b = [UInt8.ofNat k.toNat] ++ (numB t.toNat ++ (textB a.data.toList ++ (textB b.data.toList ++ []))) := by simp [evL]
    rw [this]
    exact takeD_app [UInt8.ofNat k.toNat] _
  have hc := countR_app t.toNat 1099511627776 (textB a.data.toList ++ (textB b.data.toList ++ [])) (by omega) (by omega)
  have hta := textR_app a.data.toList 16 (textB b.data.toList ++ []) la (by omega)
  have htb := textR_app b.data.toList 16 [] lb (by omega)
  rw [getD_some ht hc hta htb]
  have ek : (((UInt8.ofNat k.toNat).toNat : Nat) : Int) = k := by simp; omega
  have et : ((t.toNat : Nat) : Int) = t := by omega
  rw [ek, et]
  have ea : (⟨a.data.toList.toArray⟩ : ByteArray) = a := rfl
  have eb : (⟨b.data.toList.toArray⟩ : ByteArray) = b := rfl
  rw [ea, eb, if_neg]
  rintro (h | h | h)
  · cases h
  · simp at h
  · rw [hm] at h; cases h
theorem put_get {l : List UInt8} {k t : Int} {a b : ByteArray} (h : getD_ l = (⟨k, t, a, b⟩, 0)) : mayD k t a b = true ∧ evL k t a b = l := by
  rcases head_ways l with ht | ⟨x, tr, ht⟩
  · rw [getD_none ht] at h
    simp at h
  · rcases hc : countR (false, tr) 1099511627776 with ⟨cn, sc⟩
    rcases hta : textR sc 16 with ⟨al, sa⟩
    rcases htb : textR sa 16 with ⟨bl, bf, br⟩
    rcases getD_ways ht hc hta htb with ⟨_, e⟩ | ⟨_, _, e⟩ | ⟨_, _, _, e⟩ | ⟨hf, hb, hm, e⟩
    · rw [e] at h; simp at h
    · rw [e] at h; simp at h
    · rw [e] at h; simp at h
    · rw [e] at h
      simp only [Prod.mk.injEq, Ev.mk.injEq, and_true] at h
      obtain ⟨rfl, rfl, rfl, rfl⟩ := h
      refine ⟨hm, ?_⟩
      subst hf
      obtain rfl : br = [] := List.eq_nil_of_length_eq_zero hb
      obtain rfl := textR_back htb
      obtain rfl := textR_back hta
      obtain ⟨e1, _⟩ := countR_back hc
      obtain ⟨_, rfl⟩ := Prod.mk.inj e1
      obtain ⟨e2, _⟩ := takeD_back (n := 1) ht
      obtain ⟨_, rfl⟩ := Prod.mk.inj e2
      simp [evL]
theorem getE_two (l : List UInt8) : (getD_ l).2 = 0 ∨ (getD_ l).2 = 2 := by
  rcases head_ways l with ht | ⟨x, tr, ht⟩
  · rw [getD_none ht]; right; rfl
  · rcases hc : countR (false, tr) 1099511627776 with ⟨cn, sc⟩
    rcases hta : textR sc 16 with ⟨al, sa⟩
    rcases htb : textR sa 16 with ⟨bl, bf, br⟩
    rcases getD_ways ht hc hta htb with ⟨_, e⟩ | ⟨_, _, e⟩ | ⟨_, _, _, e⟩ | ⟨hf, hb, hm, e⟩
    all_goals rw [e]; first | (right; rfl) | (left; rfl)
theorem ev_len44 {k t : Int} {a b : ByteArray} (hm : mayD k t a b = true) : (evL k t a b).length ≤ 44 := by
  obtain ⟨k1, k2, t0, t1, na, nb⟩ := may_true hm
  have sa := nm_size a na
  have sb := nm_size b nb
  have la : a.data.toList.length ≤ 16 := by simpa using sa
  have lb : b.data.toList.length ≤ 16 := by simpa using sb
  have h1 := beL_len 6 t.toNat (by omega)
  have h2 := beL_len 1 a.data.toList.length (by omega)
  have h3 := beL_len 1 b.data.toList.length (by omega)
  simp only [evL, numB, textB, List.length_append, List.length_cons, List.length_nil]
  omega

/-- Text without a blank. -/
def noSp (l : List UInt8) : Prop := ∀ c ∈ l, c ≠ 32
theorem split_sp {p p' q q' : List UInt8} (h : noSp p) (h' : noSp p') (e : p ++ 32 :: q = p' ++ 32 :: q') : p = p' ∧ q = q' := by
  induction p generalizing p' with
  | nil =>
    cases p' with
    | nil => simpa using e
    | cons x r =>
      simp only [List.nil_append, List.cons_append, List.cons.injEq] at e
      exact absurd e.1.symm (h' x (by simp))
  | cons x r ih =>
    cases p' with
    | nil =>
      simp only [List.nil_append, List.cons_append, List.cons.injEq] at e
      exact absurd e.1 (h x (by simp))
    | cons x' r' =>
      simp only [List.cons_append, List.cons.injEq] at e
      obtain ⟨e1, e2⟩ := e
      obtain ⟨i1, i2⟩ := ih (fun c hc => h c (by simp [hc])) (fun c hc => h' c (by simp [hc])) e2
      exact ⟨by rw [e1, i1], i2⟩
theorem noSp_digits (n : Nat) : noSp (Lib.decDigits n) := by
  induction n using Nat.strongRecOn with
  | _ n ih =>
    rw [Lib.decDigits]
    have hd : ∀ d, d < 10 → UInt8.ofNat (48 + d) ≠ 32 := by decide
    split
    · rename_i h
      intro c hc
      simp only [List.mem_singleton] at hc
      subst hc
      exact hd n h
    · intro c hc
      rw [List.mem_append] at hc
      rcases hc with hc | hc
      · exact ih (n / 10) (by omega) c hc
      · simp only [List.mem_singleton] at hc
        subst hc
        exact hd _ (Nat.mod_lt _ (by omega))
theorem digits_inj {m n : Nat} (h : Lib.decDigits m = Lib.decDigits n) : m = n := by
  have h1 := decFrom_digits m
  rw [h, decFrom_digits n] at h1
  exact (Option.some.inj h1).symm
theorem noSp_word : ∀ n : Nat, n < 15 → ((wordsL.getD n ⟨#[]⟩).data.toList.all fun c => c != 32) = true := by decide
theorem noSp_wordD {k : Int} (h1 : 1 ≤ k) (h2 : k ≤ 14) : noSp (wordD k).data.toList := by
  unfold wordD
  rw [if_neg (by omega)]
  have := noSp_word k.toNat (by omega)
  rw [List.all_eq_true] at this
  intro c hc
  simpa using this c hc
theorem word_inj : ∀ m : Nat, m < 15 → ∀ n : Nat, n < 15 → ((wordsL.getD m ⟨#[]⟩).data.toList = (wordsL.getD n ⟨#[]⟩).data.toList) → m = n := by decide
theorem wordD_inj {k j : Int} (h1 : 1 ≤ k) (h2 : k ≤ 14) (g1 : 1 ≤ j) (g2 : j ≤ 14) (e : (wordD k).data.toList = (wordD j).data.toList) : k = j := by
  unfold wordD at e
  rw [if_neg (by omega), if_neg (by omega)] at e
  have := word_inj k.toNat (by omega) j.toNat (by omega) e
  omega
theorem noSp_nm {s : ByteArray} (h : nmD s = true) : noSp s.data.toList := by
  unfold nmD at h
  rw [ByteArray.toList_eq] at h
  simp only [Bool.or_eq_true] at h
  rcases h with h | h
  · rw [List.isEmpty_iff] at h
    rw [h]
    intro c hc
    cases hc
  · unfold nameD at h
    simp only [Bool.and_eq_true] at h
    have h1 := h.1
    unfold lettersD at h1
    rw [List.all_eq_true] at h1
    intro c hc e
    have := h1 c hc
    subst e
    revert this
    decide
/-- The part's bytes. -/
theorem part_list (s : ByteArray) : (partD s).data.toList = if s.data.toList = [] then [] else 32 :: s.data.toList := by
  unfold partD
  rw [ByteArray.toList_eq]
  by_cases h : s.data.toList = []
  · rw [if_pos h, if_pos (by rw [h]; rfl)]
  · rw [if_neg h, if_neg (by rw [List.isEmpty_iff]; exact h)]
    rw [ByteArray.data_append, Array.toList_append]
    rfl
theorem ba_ext {a b : ByteArray} (h : a.data.toList = b.data.toList) : a = b := by
  obtain ⟨⟨l⟩⟩ := a
  obtain ⟨⟨m⟩⟩ := b
  simp only at h
  rw [h]
/-- The text's bytes. -/
theorem text_list {k t : Int} {a b : ByteArray} (h : mayD k t a b = true) (hn : a.data.toList ≠ []) :
    (evTextD k t a b).data.toList = Lib.decDigits t.toNat ++ 32 :: ((wordD k).data.toList ++ 32 :: (a.data.toList ++ (partD b).data.toList)) := by
  obtain ⟨_, _, t0, _, _, _⟩ := may_true h
  unfold evTextD
  rw [if_pos h]
  rw [ByteArray.data_append, ByteArray.data_append, ByteArray.data_append, ByteArray.data_append, Array.toList_append, Array.toList_append, Array.toList_append, Array.toList_append, part_list a, if_neg hn]
  have : (str (Lib.itoa t)).data.toList = Lib.decDigits t.toNat := by
    rw [show t = ((t.toNat : Nat) : Int) by omega, Lib.itoa_nonneg]
    rfl
  rw [this]
  simp
theorem end_inj {a b c d : ByteArray} (ha : nmD a = true) (hc : nmD c = true) (e : a.data.toList ++ (partD b).data.toList = c.data.toList ++ (partD d).data.toList) : a = c ∧ b = d := by
  have sa := noSp_nm ha
  have sc := noSp_nm hc
  rw [part_list, part_list] at e
  by_cases hb : b.data.toList = []
  · by_cases hd : d.data.toList = []
    · rw [if_pos hb, if_pos hd, List.append_nil, List.append_nil] at e
      exact ⟨ba_ext e, ba_ext (by rw [hb, hd])⟩
    · rw [if_pos hb, if_neg hd, List.append_nil] at e
      exact absurd rfl (sa 32 (by rw [e]; simp))
  · by_cases hd : d.data.toList = []
    · rw [if_neg hb, if_pos hd, List.append_nil] at e
      exact absurd rfl (sc 32 (by rw [← e]; simp))
    · rw [if_neg hb, if_neg hd] at e
      obtain ⟨e1, e2⟩ := split_sp sa sc e
      exact ⟨ba_ext e1, ba_ext e2⟩
/-- No two that name something have one text. -/
theorem text_inj {k t j u : Int} {a b c d : ByteArray} (hm : mayD k t a b = true) (ha : a.data.toList ≠ []) (hc : c.data.toList ≠ []) (e : evTextD k t a b = evTextD j u c d) : k = j ∧ t = u ∧ a = c ∧ b = d := by
  cases hm' : mayD j u c d with
  | false =>
    exfalso
    have h1 := text_list hm ha
    rw [e] at h1
    unfold evTextD at h1
    rw [hm'] at h1
    simp at h1
  | true =>
    have h1 := text_list hm ha
    rw [e, text_list hm' hc] at h1
    obtain ⟨k1, k2, t0, _, na, nb⟩ := may_true hm
    obtain ⟨j1, j2, u0, _, nc, nd⟩ := may_true hm'
    obtain ⟨e1, h2⟩ := split_sp (noSp_digits _) (noSp_digits _) h1
    obtain ⟨e2, h3⟩ := split_sp (noSp_wordD j1 j2) (noSp_wordD k1 k2) h2
    obtain ⟨e3, e4⟩ := end_inj nc na h3
    have := digits_inj e1
    exact ⟨(wordD_inj j1 j2 k1 k2 e2).symm, by omega, e3.symm, e4.symm⟩
end Go.Proofs.YteoidkjiigjlaaaDoor
