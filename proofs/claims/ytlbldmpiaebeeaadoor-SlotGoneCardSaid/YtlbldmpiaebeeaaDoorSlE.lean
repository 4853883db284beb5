/- Slots: plain laws of the law SlotGone: what is safe behind a Clear, a Put, and a crash. -/
import Derived.Test.YtlbldmpiaebeeaaDoorSlC
namespace Go.Proofs.YtlbldmpiaebeeaaDoor
open Go Go.RowKit Go.Maps Go.MapKept Go.ChangeMaps

theorem did_safe (d : Dk) : d.did.safe = d.safe := by unfold Dk.did; split <;> rfl
theorem did_wait (d : Dk) : d.did.wait = d.wait := by unfold Dk.did; split <;> rfl
theorem over2_cases (d : Dk) (a : Nat) (l : List UInt8) (hw : d.wait = List.replicate d.safe.length none) (ht : d.there (a : Int) = 0) (hl : l.length = 256) :
    ((d.over2 a l).1 = 0 ∧ (d.over2 a l).2.wait = List.replicate d.safe.length none ∧ (d.over2 a l).2.safe = d.safe.set a l) ∨
    ((d.over2 a l).1 = 8 ∧ (d.over2 a l).2.dead = true ∧ (d.over2 a l).2.safe = d.safe ∧ (d.over2 a l).2.wait = (List.replicate d.safe.length none).set a (some l)) := by
  have hwr : d.write a l = (0, (d.put a l).did) := by
    unfold Dk.write
    rw [ht]
    simp only [ne_eq, not_true, if_false, hl, Int.toNat_natCast]
  have h1 : (d.put a l).did.safe = d.safe := by rw [did_safe]; rfl
  have h2 : (d.put a l).did.wait = (List.replicate d.safe.length none).set a (some l) := by rw [did_wait]; unfold Dk.put; rw [hw]
  unfold Dk.over2
  rw [hwr]
  simp only [ne_eq, not_true, if_false]
  unfold Dk.flush
  generalize (d.put a l).did = d1 at *
  cases hd : d1.dead
  · left
    simp only [Bool.false_eq_true, if_false]
    refine ⟨trivial, ?_, ?_⟩
    · rw [did_wait]
      unfold Dk.flushed
      rw [h2]
      simp only [map_none, List.length_set, List.length_replicate]
    · rw [did_safe]
      unfold Dk.flushed
      rw [h1, h2]
      exact zip_set _ _ _
  · right
    simp only [if_true]
    exact ⟨trivial, hd, h1, h2⟩
/-- A disk in which nothing waits, its power maybe about to go. -/
def DF (s : List (List UInt8)) (z : Int) : Dk := ⟨s, List.replicate s.length none, z, false⟩
theorem df_there (s : List (List UInt8)) (z : Int) (i : Nat) (hi : i < s.length) : (DF s z).there (i : Int) = 0 := by
  unfold Dk.there DF
  simp only [Bool.false_eq_true, if_false]
  rw [if_neg (by omega)]
theorem rep_none (n i : Nat) : ((List.replicate n (none : Option (List UInt8))).getD i none) = none := by
  rw [List.getD_eq_getElem?_getD, List.getElem?_replicate]
  split <;> rfl
theorem df_at (s : List (List UInt8)) (z : Int) (i : Nat) : (DF s z).at_ i = s.getD i [] := by
  unfold Dk.at_ DF
  simp only [rep_none]
  rfl
/-- What is known behind the Clear and the Put. -/
structure GoneI (d : Dk) (a b : Nat) (x : List UInt8) (ef eg : Int) : Prop where
  sl : d.safe.length = 8
  wl : d.wait.length = 8
  s256 : ∀ k ∈ d.safe, k.length = 256
  w256 : ∀ k, some k ∈ d.wait → k.length = 256
  gone : ef = 0 → d.wait[a]? = some none ∧ d.safe[a]? = some (zerosS 256)
  kept : eg = 0 → d.wait[b]? = some none ∧ d.safe[b]? = some x
theorem mem_wait_set {n a : Nat} {l k : List UInt8} (h : some k ∈ (List.replicate n (none : Option (List UInt8))).set a (some l)) : k = l := by
  rcases List.mem_or_eq_of_mem_set h with h | h
  · have := (List.mem_replicate.1 h).2
    cases this
  · injection h
theorem gone_put (d3 : Dk) (s : List (List UInt8)) (a b : Nat) (x : List UInt8) (kb : List UInt8) (ef : Int) (ha : a < 8) (hb : b < 8) (hab : a ≠ b) (hs8 : d3.safe.length = 8) (hw8 : d3.wait.length = 8) (hs256 : ∀ k ∈ d3.safe, k.length = 256) (hw256 : ∀ k, some k ∈ d3.wait → k.length = 256)
    (h0 : ef = 0 → d3.wait = List.replicate d3.safe.length none ∧ d3.safe[a]? = some (zerosS 256)) (h1 : ef ≠ 0 → d3.dead = true) (hk : kb.length ≤ 249) (hx : x = secS 4 kb) :
    GoneI (d3.slotPut b kb).2 a b x ef (d3.slotPut b kb).1 := by
  subst hx
  unfold Dk.slotPut
  cases hd : d3.dead
  · have he : ef = 0 := by
      by_cases he : ef = 0
      · exact he
      · rw [h1 he] at hd; cases hd
    obtain ⟨hw, hz⟩ := h0 he
    have ht : d3.there (b : Int) = 0 := by
      unfold Dk.there
      rw [hd, if_neg (by decide), if_neg (by omega)]
    rw [if_neg (fun h => h ht), if_neg (by omega)]
    have hl := secS_len 4 kb hk
    rcases over2_cases d3 b (secS 4 kb) hw ht hl with ⟨e1, e2, e3⟩ | ⟨e1, _, e3, e4⟩
    · rw [e1]
      refine ⟨by rw [e3, List.length_set]; exact hs8, by rw [e2, List.length_replicate]; exact hs8, ?_, ?_, fun _ => ⟨?_, ?_⟩, fun _ => ⟨?_, ?_⟩⟩
      · rw [e3]
        exact set_len hs256 b hl
      · rw [e2]
        intro k hk
        have := (List.mem_replicate.1 hk).2
        cases this
      · rw [e2, List.getElem?_replicate, if_pos (by omega)]
      · rw [e3, List.getElem?_set_ne (Ne.symm hab)]
        exact hz
      · rw [e2, List.getElem?_replicate, if_pos (by omega)]
      · rw [e3, List.getElem?_set_self (by omega)]
    · rw [e1]
      refine ⟨by rw [e3]; exact hs8, by rw [e4, List.length_set, List.length_replicate]; exact hs8, by rw [e3]; exact hs256, ?_, fun _ => ⟨?_, ?_⟩, fun h => absurd h (by decide)⟩
      · rw [e4]
        intro k hk
        rw [mem_wait_set hk]
        exact hl
      · rw [e4, List.getElem?_set_ne (Ne.symm hab), List.getElem?_replicate, if_pos (by omega)]
      · rw [e3]
        exact hz
  · have ht : d3.there (b : Int) = 8 := by unfold Dk.there; rw [hd, if_pos rfl]
    rw [if_pos (by rw [ht]; decide), ht]
    refine ⟨hs8, hw8, hs256, hw256, fun he => ?_, fun h => absurd (show (8 : Int) = 0 from h) (by decide)⟩
    obtain ⟨hw, hz⟩ := h0 he
    exact ⟨by rw [hw, List.getElem?_replicate, if_pos (by omega)], hz⟩
/-- Behind the Clear and the Put. -/
theorem gone_all (s : List (List UInt8)) (z : Int) (a b : Nat) (kb : List UInt8) (ha : a < 8) (hb : b < 8) (hab : a ≠ b) (hs : s.length = 8) (h256 : ∀ k ∈ s, k.length = 256) (hk : kb.length ≤ 249) :
    GoneI (((DF s z).slotClear a).2.slotPut b kb).2 a b (secS 4 kb) ((DF s z).slotClear a).1 (((DF s z).slotClear a).2.slotPut b kb).1 := by
  have ht := df_there s z a (by omega)
  have hat := df_at s z a
  unfold Dk.slotClear
  rw [if_neg (fun h => h ht), hat]
  by_cases hz : s.getD a [] = zerosS 256
  · rw [if_pos hz]
    refine gone_put (DF s z) s a b _ kb 0 ha hb hab hs (by show (List.replicate _ _).length = 8; rw [List.length_replicate]; exact hs) h256 ?_ (fun _ => ⟨rfl, ?_⟩) (fun h => absurd rfl h) hk rfl
    · intro k hk
      have := (List.mem_replicate.1 (show some k ∈ List.replicate s.length none from hk)).2
      cases this
    · show s[a]? = _
      rw [← hz, List.getD_eq_getElem?_getD, List.getElem?_eq_getElem (by omega)]
      rfl
  · rw [if_neg hz]
    rcases over2_cases (DF s z) a (zerosS 256) rfl ht (zerosS_len _) with ⟨e1, e2, e3⟩ | ⟨e1, e2, e3, e4⟩
    · rw [e1]
      have e3' : ((DF s z).over2 a (zerosS 256)).2.safe = s.set a (zerosS 256) := e3
      have e2' : ((DF s z).over2 a (zerosS 256)).2.wait = List.replicate s.length none := e2
      refine gone_put _ s a b _ kb 0 ha hb hab (by rw [e3', List.length_set]; exact hs) (by rw [e2', List.length_replicate]; exact hs) (by rw [e3']; exact set_len h256 a (zerosS_len _)) ?_ (fun _ => ⟨by rw [e2', e3', List.length_set], ?_⟩) (fun h => absurd rfl h) hk rfl
      · rw [e2']
        intro k hk
        have := (List.mem_replicate.1 hk).2
        cases this
      · rw [e3', List.getElem?_set_self (by omega)]
    · rw [e1]
      have e3' : ((DF s z).over2 a (zerosS 256)).2.safe = s := e3
      have e4' : ((DF s z).over2 a (zerosS 256)).2.wait = (List.replicate s.length none).set a (some (zerosS 256)) := e4
      refine gone_put _ s a b _ kb 8 ha hb hab (by rw [e3']; exact hs) (by rw [e4', List.length_set, List.length_replicate]; exact hs) (by rw [e3']; exact h256) ?_ (fun h => absurd h (by decide)) (fun _ => e2) hk rfl
      rw [e4']
      intro k hk
      rw [mem_wait_set hk]
      exact zerosS_len _
/-- Behind the crash. -/
theorem gone_crash {d : Dk} {a b : Nat} {x : List UInt8} {ef eg : Int} (h : GoneI d a b x ef eg) (keep : List Bool) (ha : a < 8) (hb : b < 8) :
    ∃ s, d.crash keep = DQ s ∧ s.length = 8 ∧ (∀ k ∈ s, k.length = 256) ∧ (ef = 0 → s[a]? = some (zerosS 256)) ∧ (eg = 0 → s[b]? = some x) := by
  refine ⟨keepS keep 0 d.safe d.wait, ?_, by rw [keepS_len]; exact h.sl, ?_, fun he => ?_, fun he => ?_⟩
  · unfold Dk.crash DQ
    rw [map_none, keepS_len, h.sl, h.wl]
  · intro k hk
    obtain ⟨i, hi⟩ := List.getElem?_of_mem hk
    have hi8 : i < 8 := by
      have := (List.getElem?_eq_some_iff.1 hi).1
      rwa [keepS_len, h.sl] at this
    rcases keepS_at keep d.safe d.wait 0 i _ _ (List.getElem?_eq_getElem (by rw [h.sl]; exact hi8)) (List.getElem?_eq_getElem (by rw [h.wl]; exact hi8)) with h1 | ⟨y, hy, h1⟩
    · rw [hi] at h1
      rw [Option.some.inj h1]
      exact h.s256 _ (List.getElem_mem _)
    · rw [hi] at h1
      rw [Option.some.inj h1]
      exact h.w256 y (by rw [← hy]; exact List.getElem_mem _)
  · obtain ⟨h1, h2⟩ := h.gone he
    rcases keepS_at keep d.safe d.wait 0 a _ _ h2 h1 with h3 | ⟨y, hy, _⟩
    · exact h3
    · cases hy
  · obtain ⟨h1, h2⟩ := h.kept he
    rcases keepS_at keep d.safe d.wait 0 b _ _ h2 h1 with h3 | ⟨y, hy, _⟩
    · exact h3
    · cases hy
theorem at_le {d : Dk} (hs : ∀ k ∈ d.safe, k.length = 256) (hw : ∀ k, some k ∈ d.wait → k.length = 256) (i : Nat) : (d.at_ i).length ≤ 256 := by
  unfold Dk.at_ Dk.over
  have h2 : (d.safe.getD i []).length ≤ 256 := by
    rw [List.getD_eq_getElem?_getD]
    cases h : d.safe[i]? with
    | none => exact Nat.zero_le _
    | some k => exact Nat.le_of_eq (hs k (List.mem_of_getElem? h))
  cases h : d.wait.getD i none with
  | none => exact h2
  | some k =>
    rw [List.getD_eq_getElem?_getD] at h
    cases h3 : d.wait[i]? with
    | none => rw [h3] at h; cases h
    | some o =>
      rw [h3] at h
      have h4 : o = some k := h
      exact Nat.le_of_eq (hw k (h4 ▸ List.mem_of_getElem? h3))
theorem no_wait {n : Nat} {k : List UInt8} (h : some k ∈ List.replicate n (none : Option (List UInt8))) : False := by
  have := (List.mem_replicate.1 h).2
  cases this
/-- Behind the Clear each sector has its length. -/
theorem clear_le (s : List (List UInt8)) (z : Int) (a : Nat) (ha : a < s.length) (h256 : ∀ k ∈ s, k.length = 256) (i : Nat) : (((DF s z).slotClear a).2.at_ i).length ≤ 256 := by
  have ht := df_there s z a ha
  have hat := df_at s z a
  unfold Dk.slotClear
  rw [if_neg (fun h => h ht), hat]
  by_cases hz : s.getD a [] = zerosS 256
  · rw [if_pos hz]
    exact at_le h256 (fun k hk => (no_wait hk).elim) i
  · rw [if_neg hz]
    rcases over2_cases (DF s z) a (zerosS 256) rfl ht (zerosS_len _) with ⟨_, e2, e3⟩ | ⟨_, _, e3, e4⟩
    · exact at_le (by rw [e3]; exact set_len h256 a (zerosS_len _)) (fun k hk => by rw [e2] at hk; exact (no_wait hk).elim) i
    · exact at_le (by rw [e3]; exact h256) (fun k hk => by rw [e4] at hk; rw [mem_wait_set hk]; exact zerosS_len _) i
end Go.Proofs.YtlbldmpiaebeeaaDoor
