/- Answers: the reference's readers of a digit, of digits, of a number. Answers: the reference's read. Printed by wip/tools/genwqr.py. Answers: the reference's Parse. -/
import Derived.Test.YtppnlijeonneeaaDoorPkJ
import Derived.IntWalk
import Derived.Test.YtppnlijeonneeaaDoorPkD
namespace Go.Proofs.YtppnlijeonneeaaDoor
open Go Go.RowKit Go.Sort

set_option maxRecDepth 100000 in
theorem number_any13 (s : ByteArray) (w : World) (hs : s.size ≤ 140737488351232) : Calls Tryd.prog 84 #[.string s, .int .i64 13] w fun e w' => e = .returned (.int .i64 (numD s.data.toList 13)) ∧ w = w' := by
  have hl : s.data.toList.length = s.size := by simp
  by_cases h : s.size < 1 ∨ 13 < s.size
  · have e : numD s.data.toList 13 = -1 := by rw [numD, if_pos (by omega)]
    rw [e]; exact number_no s 13 w hs (by omega)
  · by_cases hz : 1 < s.size ∧ s.data.toList.head? = some 48
    · have e : numD s.data.toList 13 = -1 := by rw [numD, if_pos (.inr (.inr ⟨by omega, hz.2⟩))]
      rw [e]
      have := hz.2
      rw [head_is s (by omega)] at this
      exact number_zero s 13 w hs hz.1 (by omega) (by rw [Option.some.inj this]; rfl)
    · have e : numD s.data.toList 13 = (match Lib.decFrom 0 s.data.toList with | some n => (n : Int) | none => -1) := by
        refine if_neg ?_
        rintro (h' | h' | h')
        · omega
        · omega
        · exact hz ⟨by omega, h'.2⟩
      rw [e]
      refine number_yes s 13 w (by omega) (by omega) (by omega) (fun h1 => ?_)
      have hne : s[0] ≠ 48 := by
        intro e0
        exact hz ⟨h1, by rw [head_is s (by omega), e0]⟩
      have : s[0].toNat ≠ 48 := fun e1 => hne (UInt8.toNat_inj.mp e1)
      simpa using (by omega : ¬ ((s[0].toNat : Int) = 48))

set_option maxRecDepth 100000 in
theorem dig_valN : ∀ n : Nat, n < 256 → valW (UInt8.ofNat n) = -1 ∨ digW (valW (UInt8.ofNat n)).toNat = UInt8.ofNat n := by decide
theorem dig_valW (c : UInt8) : valW c = -1 ∨ digW (valW c).toNat = c := by
  have := dig_valN c.toNat c.toNat_lt
  rwa [show (UInt8.ofNat c.toNat) = c from UInt8.ofNat_toNat] at this
theorem val_none {c : UInt8} (h : ∀ j : Nat, j < 16 → digW j ≠ c) : valW c = -1 := by
  rcases dig_valW c with h1 | h1
  · exact h1
  · have := valW_lt c
    exact absurd h1 (h _ (by omega))
theorem val_some {c : UInt8} {k : Nat} (hk : k < 16) (h : digW k = c) : valW c = (k : Int) := by rw [← h, valW_dig k hk]
set_option maxRecDepth 100000 in
set_option maxHeartbeats 2000000 in
theorem value_any (c : UInt8) (w : World) : Calls Tryd.prog 85 #[.int .u8 (c.toNat : Int)] w fun e w' => e = .returned (.int .i64 (valW c)) ∧ w' = w := by
  have HV := Lib.hid (fun k (hk : k < 16) (h : digW k = c) => val_some hk h)
  have HN := Lib.hid (fun (h : ∀ j : Nat, j < 16 → digW j ≠ c) => val_none h)
  generalize valW c = z at *
  go_enter Tryd.func85, Tryd.ntmps85
  go_wp2
  go_loop [3] (fun v3 => ∃ k : Nat, v3 = .int .i64 (k : Int) ∧ k ≤ 16 ∧ ∀ j : Nat, j < k → digW j ≠ c) (fun v3 => 16 - (intOf v3).toNat)
  case atStart => exact ⟨0, rfl, Nat.zero_le _, fun j h => absurd h (by omega)⟩
  case round =>
    obtain ⟨k, rfl, hk, hT⟩ := hrel
    by_cases hlt : k < 16
    · have hb : k < bHex.size := hlt
      have hg := bHex_get k hb
      by_cases e : digW k = c
      · have hq : (((bHex[k]'hb).toNat : Int) == (c.toNat : Int)) = true := by rw [hg, e]; simp
        have HT := Lib.hid (HV.out k hlt e)
        clear hT hg e
        go_wp2
        all_goals (try (exfalso; omega))
        go_ret
        exact ⟨ret_w HT.out.symm, rfl⟩
      · have hq : (((bHex[k]'hb).toNat : Int) == (c.toNat : Int)) = false := by
          rw [hg, beq_eq_false_iff_ne]
          intro h
          exact e (UInt8.toNat_inj.1 (by omega))
        have HT := Lib.hid (show ∀ j : Nat, j < k + 1 → digW j ≠ c from fun j hj => by
          rcases Nat.lt_succ_iff_lt_or_eq.1 hj with h | rfl
          · exact hT j h
          · exact e)
        clear hT hg e
        go_wp2
        all_goals (try (exfalso; omega))
        exact ⟨⟨k + 1, by go_num, hlt, HT.out⟩, by simp [intOf]; omega⟩
    · obtain rfl : k = 16 := by omega
      have HT := Lib.hid (HN.out hT)
      clear hT
      go_wp2
      all_goals (try (exfalso; omega))
      go_ret
      exact ⟨ret_w HT.out.symm, rfl⟩
theorem unhR_step : ∀ (k : Nat) (l : List UInt8) (p : List UInt8) (a b : UInt8), unhR (l.take (2 * k)) = some p → l[2 * k]? = some a → l[2 * k + 1]? = some b → ¬ (valW a < 0 ∨ valW b < 0) → unhR (l.take (2 * (k + 1))) = some (p ++ [byteW a b])
  | 0, l, p, a, b, hp, h1, h2, hv => by
    match l, hp, h1, h2 with
    | x :: y :: r, hp, h1, h2 =>
      simp only [Nat.mul_zero, List.getElem?_cons_zero, Option.some.injEq, Nat.zero_add, List.getElem?_cons_succ] at h1 h2
      subst h1 h2
      simp only [Nat.mul_zero, List.take_zero, unhR, Option.some.injEq] at hp
      subst hp
      simp [unhR, hv]
    | [x], _, _, h2 => simp at h2
    | [], _, h1, _ => simp at h1
  | k + 1, l, p, a, b, hp, h1, h2, hv => by
    match l, hp, h1, h2 with
    | x :: y :: r, hp, h1, h2 =>
      rw [show 2 * (k + 1) = 2 * k + 1 + 1 by omega, List.getElem?_cons_succ, List.getElem?_cons_succ] at h1
      rw [show 2 * (k + 1) + 1 = 2 * k + 1 + 1 + 1 by omega, List.getElem?_cons_succ, List.getElem?_cons_succ] at h2
      rw [show 2 * (k + 1) = 2 * k + 1 + 1 by omega, List.take_succ_cons, List.take_succ_cons, unhR] at hp
      split at hp
      · cases hp
      · rename_i hxy
        cases e : unhR (r.take (2 * k)) with
        | none => rw [e] at hp; cases hp
        | some q =>
          rw [e] at hp
          obtain rfl := Option.some.inj hp
          have := unhR_step k r q a b e h1 h2 hv
          rw [show 2 * (k + 1 + 1) = 2 * (k + 1) + 1 + 1 by omega, List.take_succ_cons, List.take_succ_cons, unhR, if_neg hxy, this]
          rfl
    | [x], _, _, h2 => simp at h2
    | [], _, h1, _ => simp at h1
theorem unhR_fail : ∀ (k : Nat) (l : List UInt8) (a b : UInt8), l[2 * k]? = some a → l[2 * k + 1]? = some b → (valW a < 0 ∨ valW b < 0) → unhR l = none
  | 0, l, a, b, h1, h2, hv => by
    match l, h1, h2 with
    | x :: y :: r, h1, h2 =>
      simp only [Nat.mul_zero, List.getElem?_cons_zero, Option.some.injEq, Nat.zero_add, List.getElem?_cons_succ] at h1 h2
      subst h1 h2
      rw [unhR, if_pos hv]
    | [x], _, h2 => simp at h2
    | [], h1, _ => simp at h1
  | k + 1, l, a, b, h1, h2, hv => by
    match l, h1, h2 with
    | x :: y :: r, h1, h2 =>
      rw [show 2 * (k + 1) = 2 * k + 1 + 1 by omega, List.getElem?_cons_succ, List.getElem?_cons_succ] at h1
      rw [show 2 * (k + 1) + 1 = 2 * k + 1 + 1 + 1 by omega, List.getElem?_cons_succ, List.getElem?_cons_succ] at h2
      rw [unhR, unhR_fail k r a b h1 h2 hv]
      split <;> rfl
    | [x], _, h2 => simp at h2
    | [], h1, _ => simp at h1
theorem unhR_odd : ∀ (k : Nat) (l : List UInt8), l.length = 2 * k + 1 → unhR l = none
  | 0, l, h => by
    match l, h with
    | [x], _ => rfl
    | x :: y :: r, h => simp at h
    | [], h => simp at h
  | k + 1, l, h => by
    match l, h with
    | [x], h => simp at h
    | x :: y :: r, h =>
      simp only [List.length_cons] at h
      rw [unhR, unhR_odd k r (by omega)]
      split <;> rfl
    | [], h => simp at h
theorem unhR_half : ∀ (l p : List UInt8), unhR l = some p → 2 * p.length ≤ l.length
  | [], p, h => by cases h; exact Nat.le_refl _
  | [_], p, h => by cases h
  | a :: b :: r, p, h => by
    rw [unhR] at h
    split at h
    · cases h
    · cases e : unhR r with
      | none => rw [e] at h; cases h
      | some q =>
        rw [e] at h
        obtain rfl := Option.some.inj h
        have := unhR_half r q e
        simp only [List.length_cons]
        omega
theorem sum_W {a b : UInt8} (h : ¬ (valW a < 0 ∨ valW b < 0)) : 16 * valW a + valW b = ((byteW a b).toNat : Int) := by
  have hA := valW_lt a
  have hB := valW_lt b
  unfold byteW
  rw [UInt8.toNat_ofNat']
  omega
set_option maxRecDepth 100000 in
set_option maxHeartbeats 4000000 in
theorem unhex_any (s : ByteArray) (l : List UInt8) (hsl : s = wa l) (w : World) (hl : l.length ≤ 1000000) : Calls Tryd.prog 57 #[.string s] w fun e w' => ∃ v, e = .returned (.tuple #[v, .bool (unhR l).isSome]) ∧ (∀ b, unhR l = some b → OwnB w' w.heap.size v b) ∧ Gr w w' := by
  have hsz : s.size = l.length := by rw [hsl, wa_size]
  have hget : ∀ (i : Nat) (h : i < s.size), l[i]? = some (s[i]'h) := by
    intro i h
    subst hsl
    rw [List.getElem?_eq_getElem (by omega)]
    rfl
  have HU := Lib.hid (fun k p a b (h0 : unhR (l.take (2 * k)) = some p) (h1 : l[2 * k]? = some a) (h2 : l[2 * k + 1]? = some b) h3 => unhR_step k l p a b h0 h1 h2 h3)
  have HF := Lib.hid (fun k a b (h1 : l[2 * k]? = some a) (h2 : l[2 * k + 1]? = some b) h3 => unhR_fail k l a b h1 h2 h3)
  have HO := Lib.hid (fun k (h : l.length = 2 * k + 1) => unhR_odd k l h)
  have HE := Lib.hid (fun k (h : l.length = 2 * k) => (by rw [← h, List.take_length] : unhR (l.take (2 * k)) = unhR l))
  have HH := Lib.hid (fun k p (h : unhR (l.take (2 * k)) = some p) => Nat.le_trans (unhR_half _ _ h) (List.length_take_le _ _))
  have HG := Lib.hid hget
  clear hget hsl
  go_enter Tryd.func57, Tryd.ntmps57
  go_wp2
  go_loopw [4, 5] (fun v4 v5 wr => ∃ (i k : Nat) (vb : Value) (p : List UInt8), v5 = .int .i64 (i : Int) ∧ vb = v4 ∧ Hid (i = 2 * k) ∧ i ≤ l.length ∧ Hid (unhR (l.take (2 * k)) = some p) ∧ OwnB wr w.heap.size vb p ∧ Gr w wr) (fun _ v5 _ => l.length + 1 - (intOf v5).toNat)
  case atStart => exact ⟨0, 0, _, [], rfl, rfl, Lib.hid rfl, Nat.zero_le _, Lib.hid rfl, OwnB.new w [] _ (Nat.le_refl _) (Nat.zero_le _) _ rfl, Gr.alloc _ _⟩
  case round =>
    obtain ⟨i, k, vb, p, rfl, rfl, hik, hk, hp, hO, hgw⟩ := hrel
    have hpl : p.length ≤ 1000000 := by have := HH.out k p hp.out; have := hik.out; omega
    by_cases hlt : i + 1 < s.size
    · have f0 : i < s.size := by omega
      have f1 : i < l.length := by omega
      have f2 : i + 1 < l.length := by omega
      have gb := HG.out (i + 1) hlt
      have gb' : l[2 * k + 1]? = some (s[i + 1]'hlt) := by rw [← hik.out]; exact gb
      have ga' : l[2 * k]? = some (s[i]'f0) := by rw [← hik.out]; exact HG.out i f0
      have cA := value_any (s[i]'f0)
      have cB := value_any (s[i + 1]'hlt)
      have hnn : 0 ≤ (i : Int) + 1 := by omega
      have hw1 : IntKind.i64.wrap ((i : Int) + 1) = (i : Int) + 1 := IntWalk.i64_in _ (by omega)
      have rA := valW_lt (s[i]'f0)
      have rB := valW_lt (s[i + 1]'hlt)
      by_cases hv : valW (s[i]'f0) < 0 ∨ valW (s[i + 1]'hlt) < 0
      · have HN := Lib.hid (HF.out k _ _ ga' gb' hv)
        clear gb ga' gb'
        rcases (by omega : valW (s[i]'f0) < 0 ∨ (0 ≤ valW (s[i]'f0) ∧ valW (s[i + 1]'hlt) < 0)) with h | ⟨h, h'⟩
        all_goals
          go_wp2
          go_quiet ((go_at_call 85; with_reducible first | exact quiet_smW (cA _) | exact quiet_smW (cB _)))
          go_wp2
          all_goals (try (exfalso; omega))
          go_ret2
          exact ⟨_, by rw [HN.out]; rfl, fun b hb => (by rw [HN.out] at hb; cases hb), Gr.trans hgw (Gr.drewN _ _)⟩
      · have HT := Lib.hid (HU.out k p _ _ hp.out ga' gb' hv)
        have hbw := sum_W hv
        have h1 : 0 ≤ valW (s[i]'f0) := by omega
        have h2 : 0 ≤ valW (s[i + 1]'hlt) := by omega
        clear gb ga' gb' hv
        go_wp2
        go_quiet ((go_at_call 85; with_reducible first | exact quiet_smW (cA _) | exact quiet_smW (cB _)))
        generalize byteW (s[i]'f0) (s[i + 1]'hlt) = c at *
        have hg5 := Gr.trans (Gr.drewN wr nq) (Gr.alloc (wr.drewN nq) (.cells #[.int .u8 (c.toNat : Int)] 5))
        have hO5 := hO.gr hg5
        have hr5 := (OwnB.new (wr.drewN nq) [c] 0 (Nat.zero_le _) (by unfold maxLen; simp) #[.int .u8 (c.toNat : Int)] rfl).rd
        have hs5 : w.heap.size ≤ ((wr.drewN nq).alloc (.cells #[.int .u8 (c.toNat : Int)] 5)).heap.size := Nat.le_trans hgw.size hg5.size
        go_wp2_with (at_builtin
                     go_loud (refine wpList_appendB _ rfl (.tmp 31) (.tmp 37) rfl w.heap.size _ _ rfl hO5 _ _ [c] rfl hr5 (by rw [List.length_singleton]; omega) hs5 ?_)
                     intro v6 w6 hO6 hb6 hg6)
        all_goals (try (exfalso; omega))
        go_roundw
        case rel => exact ⟨i + 2, k + 1, _, _, by go_num, rfl, Lib.hid (by rw [hik.out]; omega), by omega, Lib.hid HT.out, hO6, Below.trans (Gr.trans hgw hg5) hb6⟩
        case measure => simp [intOf]; omega
    · have f4 : ¬ ((i : Int) + 1 < (l.length : Int)) := by omega
      have f3 : ¬ (i + 1 < l.length) := by omega
      have hw1 : IntKind.i64.wrap ((i : Int) + 1) = (i : Int) + 1 := IntWalk.i64_in _ (by omega)
      by_cases hev : i = l.length
      · have hU := HE.out k (by rw [← hik.out]; omega)
        rw [hp.out] at hU
        have hr0 : (l.length : Int) % 2 = 0 := by have := hik.out; omega
        have HN := Lib.hid hU
        clear hU
        go_wp2
        all_goals (try (exfalso; omega))
        go_ret2
        exact ⟨_, by rw [← HN.out]; rfl, fun b hb => (by rw [← HN.out] at hb; cases hb; exact hO), hgw⟩
      · have hU := HO.out k (by rw [← hik.out]; omega)
        have hr0 : (l.length : Int) % 2 = 1 := by have := hik.out; omega
        have HN := Lib.hid hU
        clear hU
        go_wp2
        all_goals (try (exfalso; omega))
        go_ret2
        exact ⟨_, by rw [HN.out]; rfl, fun b hb => (by rw [HN.out] at hb; cases hb), hgw⟩
set_option maxRecDepth 100000 in
theorem num_any (b : List UInt8) (w : World) (hl : b.length ≤ 1000000) : Calls Tryd.prog 56 #[.string (wa b)] w fun e w' => e = .returned (.int .i64 (numRW b)) ∧ w' = w := by
  have cN := fun W => number_any13 (wa b) W (by rw [wa_size]; omega)
  rw [wa_data] at cN
  unfold numRW
  by_cases h : b = [45, 49]
  · rw [if_pos h, h]
    clear cN
    go_enter Tryd.func56, Tryd.ntmps56
    rw [show wa [45, 49] = ⟨#[45, 49]⟩ from rfl]
    go_wp2
    go_ret
    exact ⟨rfl, rfl⟩
  · rw [if_neg h]
    have n3 : ((wa b).toList == [45, 49]) = false := by rw [beq_eq_false_iff_ne, ByteArray.toList_eq, wa_data]; exact h
    generalize wa b = sb at *
    generalize numD b 13 = z at *
    by_cases hz : z < 0
    · rw [if_pos hz]
      go_enter Tryd.func56, Tryd.ntmps56
      go_wp2_with (go_at_call 84; (with_reducible refine (cN _).mono ?_); rintro e w1 ⟨rfl, rfl⟩)
      all_goals (try (exfalso; omega))
      go_ret
      exact ⟨rfl, rfl⟩
    · rw [if_neg hz]
      go_enter Tryd.func56, Tryd.ntmps56
      go_wp2_with (go_at_call 84; (with_reducible refine (cN _).mono ?_); rintro e w1 ⟨rfl, rfl⟩)
      all_goals (try (exfalso; omega))
      go_ret
      exact ⟨rfl, rfl⟩
end Go.Proofs.YtppnlijeonneeaaDoor

namespace Go.Proofs.YtppnlijeonneeaaDoor
open Go Go.RowKit Go.Sort

/-- What read tells. -/
def PRead (o : Option Rep) (w : World) (e : Ending) (w' : World) : Prop :=
  ∃ (er n : Int) (A1 A2 A3 : Option Addr) (n1 c1 n2 c2 n3 c3 : Nat), e = .returned (.tuple #[.agg #[.int .i64 er, .int .i64 n, .slice A1 n1 c1, .slice A2 n2 c2, .slice A3 n3 c3], .bool o.isSome]) ∧
    (∀ r, o = some r → RdRep w' (fun b => w.heap.size ≤ b ∧ b < w'.heap.size) r (.agg #[.int .i64 er, .int .i64 n, .slice A1 n1 c1, .slice A2 n2 c2, .slice A3 n3 c3])) ∧ Gr w w'
theorem PRead.fin {o : Option Rep} {w W : World} {b : Bool} {er n : Int} {A1 A2 A3 : Option Addr} {n1 c1 n2 c2 n3 c3 : Nat} (hb : o.isSome = b) (hr : ∀ r, o = some r → RdRep W (fun b => w.heap.size + 1 ≤ b ∧ b < W.heap.size) r (.agg #[.int .i64 er, .int .i64 n, .slice A1 n1 c1, .slice A2 n2 c2, .slice A3 n3 c3])) (hg : Gr w W) :
    PRead o w (.returned (.tuple #[.agg #[.int .i64 er, .int .i64 n, .slice A1 n1 c1, .slice A2 n2 c2, .slice A3 n3 c3], .bool b])) (set5v W w.heap.size (.int .i64 er) (.int .i64 n) (.slice A1 n1 c1) (.slice A2 n2 c2) (.slice A3 n3 c3)) :=
  ⟨_, _, _, _, _, _, _, _, _, _, _, by rw [hb], fun r h => ((hr r h).keep fun p hp => set5_far (by have := hp.1; omega) _ _ _ _ _).mono fun b hb => ⟨by have := hb.1; omega, by rw [set5_size]; exact hb.2⟩, gr_set5 hg _ (Nat.le_refl _) _ _ _ _ _⟩
theorem PRead.zero {o : Option Rep} {w W : World} (ho : o = none) (hg : Gr w W) : PRead o w (.returned (.tuple #[.agg repZ, .bool false])) (set5v W w.heap.size (.int .i64 0) (.int .i64 0) (.slice none 0 0) (.slice none 0 0) (.slice none 0 0)) :=
  PRead.fin (by rw [ho]; rfl) (fun r h => by rw [ho] at h; cases h) hg
theorem sz_putR {w : List UInt8} {r r' : Rep} (h : putR w r = some r') : szW r' ≤ szW r + w.length + 1 := by
  cases w with
  | nil => cases h
  | cons c t =>
    rw [putR] at h
    split at h
    · cases h
      simp only [szW, Rep.nl, Rep.hl, Rep.xl, List.map_append, List.map_cons, List.map_nil, ledW_len1, wa_data, List.length_cons]
      omega
    · split at h
      · cases h
        simp only [szW, Rep.nl, Rep.hl, Rep.xl, List.map_append, List.map_cons, List.map_nil, ledW_len1, wa_data, List.length_cons]
        omega
      · split at h
        · cases e : unhR t with
          | none => rw [e] at h; cases h
          | some b =>
            rw [e] at h
            have hx := unhR_half t b e
            cases h
            simp only [szW, Rep.nl, Rep.hl, Rep.xl, List.map_append, List.map_cons, List.map_nil, ledW_len1, hexL_len, List.length_cons]
            omega
        · cases h
theorem foldR_bound {m : List (List UInt8)} {r0 r : Rep} {k N : Nat} (h : foldW putR (m.take k) r0 = some r) (h0 : szW r0 = 0) (hm : sumO m ≤ N) : szW r ≤ N := by
  have h1 := sz_fold putR (fun w r r' => sz_putR) _ _ _ h
  have h2 := sum_take m k
  omega
theorem PRead.new {o : Option Rep} {w : World} {b : Bool} {er n : Int} (hb : o.isSome = b) (hr : ∀ r, o = some r → r = ⟨er, n, [], [], []⟩) :
    PRead o w (.returned (.tuple #[.agg #[.int .i64 er, .int .i64 n, .slice none 0 0, .slice none 0 0, .slice none 0 0], .bool b])) (w.alloc (.cells #[.int .i64 er, .int .i64 n, .slice none 0 0, .slice none 0 0, .slice none 0 0] 26)) :=
  ⟨_, _, _, _, _, _, _, _, _, _, _, by rw [hb], fun r h => by rw [hr r h]; exact rep0 _ _ _ _, Gr.alloc _ _⟩
set_option maxRecDepth 100000 in
set_option maxHeartbeats 2000000 in
theorem read_few (ws : List (List UInt8)) (A : Option Addr) (c : Nat) (w : World) (hc : ws.length ≤ c ∧ c ≤ maxLen) (h : ws.length < 2) : Calls Tryd.prog 28 #[.slice A ws.length c] w (PRead (candR ws) w) := by
  have ho : candR ws = none := by
    rcases ws with _ | ⟨a, _ | ⟨b, r⟩⟩
    · rfl
    · rfl
    · simp at h; omega
  have hF := PRead.new (o := candR ws) (w := w) (b := false) (er := 0) (n := 0) (by rw [ho]; rfl) (fun r h => by rw [ho] at h; cases h)
  generalize PRead (candR ws) w = Post at *
  have hcm := hc.2
  unfold maxLen at hcm
  have hB := Blk.new w 26 repZ
  clear ho
  go_enter Tryd.func28, Tryd.ntmps28
  go_wp2
  all_goals (try (exfalso; omega))
  obtain ⟨z0, z1, z2, z3, z4⟩ := five_cells hB
  exact bodyPost_ret (v := .tuple #[.agg repZ, .bool false]) (by simp [results, Tryd.results28, go_sem, z0, z1, z2, z3, z4]) rfl hF
set_option maxRecDepth 100000 in
set_option maxHeartbeats 2000000 in
theorem read_err (b : List UInt8) (rest : List (List UInt8)) (gw : Nat) (c : Nat) (w : World) (hc : rest.length + 2 ≤ c ∧ c ≤ maxLen) (hgw : gw < w.heap.size) (hcell : ∀ (k : Nat) (x : List UInt8), (bError :: b :: rest)[k]? = some x → w.cell? ⟨gw, k, none⟩ = some (.string (wa x))) (hb : b.length ≤ 100000) :
    Calls Tryd.prog 28 #[.slice (some ⟨gw, 0, none⟩) (rest.length + 2) c] w (PRead (candR (bError :: b :: rest)) w) := by
  have ho : candR (bError :: b :: rest) = if rest = [] ∧ 0 < numRW b then some ⟨numRW b, 0, [], [], []⟩ else none := by rw [candR, if_pos rfl]
  have hF1 : rest.length = 0 → 0 < numRW b → PRead (candR (bError :: b :: rest)) w (.returned (.tuple #[.agg #[.int .i64 (numRW b), .int .i64 0, .slice none 0 0, .slice none 0 0, .slice none 0 0], .bool true])) (w.alloc (.cells #[.int .i64 (numRW b), .int .i64 0, .slice none 0 0, .slice none 0 0, .slice none 0 0] 26)) := fun h1 h2 => by
    have e : candR (bError :: b :: rest) = some ⟨numRW b, 0, [], [], []⟩ := by rw [ho, if_pos ⟨List.eq_nil_of_length_eq_zero h1, h2⟩]
    exact PRead.new (by rw [e]; rfl) (fun r h => by rw [e] at h; cases h; rfl)
  have hF2 : ¬ (rest.length = 0 ∧ 0 < numRW b) → PRead (candR (bError :: b :: rest)) w (.returned (.tuple #[.agg #[.int .i64 (numRW b), .int .i64 0, .slice none 0 0, .slice none 0 0, .slice none 0 0], .bool false])) (w.alloc (.cells #[.int .i64 (numRW b), .int .i64 0, .slice none 0 0, .slice none 0 0, .slice none 0 0] 26)) := fun h1 => by
    have e : candR (bError :: b :: rest) = none := by rw [ho, if_neg (fun h => h1 ⟨by rw [h.1]; rfl, h.2⟩)]
    exact PRead.new (by rw [e]; rfl) (fun r h => by rw [e] at h; cases h)
  generalize PRead (candR (bError :: b :: rest)) w = Post at *
  have hcm := hc.2
  unfold maxLen at hcm
  have hcl := hc.1
  have cN := fun W => num_any b W (by omega)
  have hg := Gr.alloc w (.cells #[.int .i64 0, .int .i64 0, .slice none 0 0, .slice none 0 0, .slice none 0 0] 26)
  have p0 := (hg.cell (p := ⟨gw, 0, none⟩) hgw).trans (hcell 0 bError rfl)
  have p1 := (hg.cell (p := ⟨gw, 1, none⟩) hgw).trans (hcell 1 b rfl)
  rw [show wa bError = ⟨#[101, 114, 114, 111, 114]⟩ from rfl] at p0
  generalize wa b = sb at *
  generalize numRW b = z at *
  generalize rest.length = M at *
  clear ho hcell hc hb
  have hB := Blk.new w 26 #[.int .i64 z, .int .i64 0, .slice none 0 0, .slice none 0 0, .slice none 0 0]
  have HF1 := Lib.hid hF1
  have HF2 := Lib.hid hF2
  clear hF1 hF2
  rcases (by omega : (M = 0 ∧ 0 < z) ∨ (M = 0 ∧ z ≤ 0) ∨ 0 < M) with ⟨rfl, h⟩ | ⟨rfl, h⟩ | h
  · go_enter Tryd.func28, Tryd.ntmps28
    go_wp2_with (go_at_call 56; (with_reducible refine (cN _).mono ?_); rintro e w1 ⟨rfl, rfl⟩)
    all_goals (try (exfalso; omega))
    obtain ⟨z0, z1, z2, z3, z4⟩ := five_cells hB
    exact bodyPost_ret (v := .tuple #[.agg #[.int .i64 z, .int .i64 0, .slice none 0 0, .slice none 0 0, .slice none 0 0], .bool true]) (by simp [results, Tryd.results28, go_sem, z0, z1, z2, z3, z4]) rfl (HF1.out (by first | rfl | trivial) h)
  · go_enter Tryd.func28, Tryd.ntmps28
    go_wp2_with (go_at_call 56; (with_reducible refine (cN _).mono ?_); rintro e w1 ⟨rfl, rfl⟩)
    all_goals (try (exfalso; omega))
    obtain ⟨z0, z1, z2, z3, z4⟩ := five_cells hB
    exact bodyPost_ret (v := .tuple #[.agg #[.int .i64 z, .int .i64 0, .slice none 0 0, .slice none 0 0, .slice none 0 0], .bool false]) (by simp [results, Tryd.results28, go_sem, z0, z1, z2, z3, z4]; omega) rfl (HF2.out (by omega))
  · have h' : ¬ M = 0 := by omega
    go_enter Tryd.func28, Tryd.ntmps28
    go_wp2_with (go_at_call 56; (with_reducible refine (cN _).mono ?_); rintro e w1 ⟨rfl, rfl⟩)
    all_goals (try (exfalso; omega))
    obtain ⟨z0, z1, z2, z3, z4⟩ := five_cells hB
    exact bodyPost_ret (v := .tuple #[.agg #[.int .i64 z, .int .i64 0, .slice none 0 0, .slice none 0 0, .slice none 0 0], .bool false]) (by simp [results, Tryd.results28, go_sem, z0, z1, z2, z3, z4]) rfl (HF2.out (by omega))
set_option maxRecDepth 100000 in
set_option maxHeartbeats 16000000 in
theorem read_num (a b : List UInt8) (rest : List (List UInt8)) (gw : Nat) (c : Nat) (w : World) (ha : a ≠ bError) (hc : rest.length + 2 ≤ c ∧ c ≤ maxLen) (hgw : gw < w.heap.size) (hcell : ∀ (k : Nat) (x : List UInt8), (a :: b :: rest)[k]? = some x → w.cell? ⟨gw, k, none⟩ = some (.string (wa x))) (hb : b.length ≤ 100000) (hsum : sumO rest ≤ 5000) (hM : rest.length ≤ 5000) (hxs : ∀ x ∈ rest, x.length ≤ 100000) :
    Calls Tryd.prog 28 #[.slice (some ⟨gw, 0, none⟩) (rest.length + 2) c] w (PRead (candR (a :: b :: rest)) w) := by
  have ho : candR (a :: b :: rest) = match foldW putR rest ⟨0, numRW b, [], [], []⟩ with
      | none => none
      | some r => if a = bOk ∧ -1 ≤ numRW b then some r else none := by
    rw [candR, if_neg ha]
    cases foldW putR rest ⟨0, numRW b, [], [], []⟩ <;> rfl
  have hF0 : foldW putR rest ⟨0, numRW b, [], [], []⟩ = none → ∀ W, Gr w W → PRead (candR (a :: b :: rest)) w (.returned (.tuple #[.agg repZ, .bool false])) (set5v W w.heap.size (.int .i64 0) (.int .i64 0) (.slice none 0 0) (.slice none 0 0) (.slice none 0 0)) := fun h W hg => PRead.zero (by rw [ho, h]) hg
  have hF1 : ∀ r, foldW putR rest ⟨0, numRW b, [], [], []⟩ = some r → ∀ (W : World) (t : Bool) (er n : Int) (A1 A2 A3 : Option Addr) (n1 c1 n2 c2 n3 c3 : Nat), decide (a = bOk ∧ -1 ≤ numRW b) = t → RdRep W (fun b => w.heap.size ≤ b ∧ b < W.heap.size) r (.agg #[.int .i64 er, .int .i64 n, .slice A1 n1 c1, .slice A2 n2 c2, .slice A3 n3 c3]) → Gr w W →
      PRead (candR (a :: b :: rest)) w (.returned (.tuple #[.agg #[.int .i64 er, .int .i64 n, .slice A1 n1 c1, .slice A2 n2 c2, .slice A3 n3 c3], .bool t])) W := by
    intro r h W t er n A1 A2 A3 n1 c1 n2 c2 n3 c3 ht hr hg
    by_cases hh : a = bOk ∧ -1 ≤ numRW b
    · have e : candR (a :: b :: rest) = some r := by rw [ho, h]; dsimp only; rw [if_pos hh]
      exact ⟨_, _, _, _, _, _, _, _, _, _, _, by rw [e, ← ht, decide_eq_true hh]; rfl, fun q hq => (by rw [e] at hq; cases hq; exact hr), hg⟩
    · have e : candR (a :: b :: rest) = none := by rw [ho, h]; dsimp only; rw [if_neg hh]
      exact ⟨_, _, _, _, _, _, _, _, _, _, _, by rw [e, ← ht, decide_eq_false hh]; rfl, fun q hq => (by rw [e] at hq; cases hq), hg⟩
  generalize PRead (candR (a :: b :: rest)) w = Post at *
  have hcm := hc.2
  unfold maxLen at hcm
  have hcl := hc.1
  have cN := fun W => num_any b W (by omega)
  have hz0 : szW ⟨0, numRW b, [], [], []⟩ = 0 := rfl
  have hbd : ∀ (r : Rep) (k : Nat), foldW putR (rest.take k) ⟨0, numRW b, [], [], []⟩ = some r → szW r ≤ 5000 := fun r k h => foldR_bound h hz0 hsum
  have g0 := Gr.alloc w (.cells #[.int .i64 0, .int .i64 0, .slice none 0 0, .slice none 0 0, .slice none 0 0] 26)
  have p0 := (g0.cell (p := ⟨gw, 0, none⟩) hgw).trans (hcell 0 a rfl)
  have p1 := (g0.cell (p := ⟨gw, 1, none⟩) hgw).trans (hcell 1 b rfl)
  have hck := fun k x (hx : rest[k]? = some x) => hcell (k + 2) x hx
  have n3 : ((wa a).toList == [101, 114, 114, 111, 114]) = false := by rw [beq_eq_false_iff_ne, ByteArray.toList_eq, wa_data]; exact ha
  have nok : ((wa a).toList == [111, 107]) = decide (a = bOk) := by
    rw [ByteArray.toList_eq, wa_data]
    by_cases h : a = bOk
    · rw [decide_eq_true h, h]; rfl
    · rw [decide_eq_false h]; exact beq_eq_false_iff_ne.2 h
  have hrl : ∀ (k : Nat) (x : List UInt8), rest[k]? = some x → x.length ≤ 100000 := fun k x hx => hxs x (List.mem_of_getElem? hx)
  have hFN := fun k x r (h1 : foldW putR (rest.take k) ⟨0, numRW b, [], [], []⟩ = some r) (h2 : rest[k]? = some x) (h3 : putR x r = none) => fold_fail h1 h2 h3
  have hFS := fun k x r (h1 : foldW putR (rest.take k) ⟨0, numRW b, [], [], []⟩ = some r) (h2 : rest[k]? = some x) => fold_next h1 h2
  have hFE : ∀ r, foldW putR (rest.take rest.length) ⟨0, numRW b, [], [], []⟩ = some r → foldW putR rest ⟨0, numRW b, [], [], []⟩ = some r := fun r h => by rwa [List.take_length] at h
  generalize numRW b = n at *
  have HF0 := Lib.hid hF0
  have HF1 := Lib.hid hF1
  have HBD := Lib.hid hbd
  have HCK := Lib.hid hck
  have HRL := Lib.hid hrl
  have HFN := Lib.hid hFN
  have HFS := Lib.hid hFS
  have HFE := Lib.hid hFE
  have HNOK := Lib.hid nok
  clear hF0 hF1 hbd hck hrl hFN hFS hFE hcell hc hb ho nok ha hsum hxs
  generalize wa b = sb at *
  generalize wa a = sa at *
  go_enter Tryd.func28, Tryd.ntmps28
  go_wp2_with (go_at_call 56; (with_reducible refine (cN _).mono ?_); rintro e w1 ⟨rfl, rfl⟩)
  all_goals (try (exfalso; omega))
  obtain ⟨W1, hW1⟩ : ∃ W1, (w.alloc (.cells #[.int .i64 0, .int .i64 0, .slice none 0 0, .slice none 0 0, .slice none 0 0] 26)).alloc (.cells #[.int .i64 0, .int .i64 n, .slice none 0 0, .slice none 0 0, .slice none 0 0] 26) = W1 := ⟨_, rfl⟩
  have hs0 : (w.alloc (.cells #[.int .i64 0, .int .i64 0, .slice none 0 0, .slice none 0 0, .slice none 0 0] 26)).heap.size = w.heap.size + 1 := by simp
  have hB1 : Blk W1 (w.heap.size + 1) 26 #[.int .i64 0, .int .i64 n, .slice none 0 0, .slice none 0 0, .slice none 0 0] := by
    rw [← hW1, ← hs0]
    exact Blk.new _ _ _
  have hres1 : Blk W1 w.heap.size 26 repZ := by rw [← hW1]; exact (Blk.new w _ _).alloc _
  have hG1 : Gr w W1 := by rw [← hW1]; exact Gr.trans (Gr.alloc _ _) (Gr.alloc _ _)
  have hs1 : W1.heap.size = w.heap.size + 2 := by rw [← hW1]; simp
  have hP1 : POwn (w.heap.size + 2) (w.heap.size + 1) ⟨0, n, [], [], []⟩ W1 := ⟨Nat.lt_succ_self _, by omega, _, _, _, [], hB1, PRows.nil _ _ _ _⟩
  have p01 : W1.cell? ⟨gw, 0, none⟩ = some (.string sa) := by rw [← hW1, (Gr.alloc _ _).cell (p := ⟨gw, 0, none⟩) (by rw [hs0]; show gw < _; omega)]; exact p0
  rw [hW1]
  clear hW1 hs0 hB1 p0 p1 cN g0
  obtain ⟨g, hgg⟩ : ∃ g, w.heap.size + 1 = g := ⟨_, rfl⟩
  rw [show w.heap.size + 2 = g + 1 by omega] at hP1
  rw [hgg] at hP1 ⊢
  have hgs : w.heap.size < g := by omega
  have hgwg : gw < g := by omega
  go_loopw [6] (fun v6 wr => ∃ (i k : Nat) (r : Rep), v6 = .int .i64 (i : Int) ∧ Hid (i = k + 2) ∧ k ≤ rest.length ∧ Hid (foldW putR (rest.take k) ⟨0, n, [], [], []⟩ = some r) ∧ POwn (g + 1) g r wr ∧ Below g W1 wr) (fun v6 _ => rest.length + 2 - (intOf v6).toNat)
  case atStart => exact ⟨2, 0, _, rfl, Lib.hid rfl, Nat.zero_le _, Lib.hid rfl, hP1, Below.refl _ _⟩
  case round =>
    obtain ⟨i, k, r, rfl, hik, hk, hT, hPr, hb⟩ := hrel
    have hs5 := HBD.out r k hT.out
    have hresr := hres1.below hb hgs
    have hGr : Gr w wr := Below.trans hG1 (hb.mono (Nat.le_of_lt hgs))
    obtain ⟨z0, z1, z2, z3, z4, q0, q1, q2, q3, q4⟩ := five_cells5 hresr
    obtain ⟨l1, l2, l3, -⟩ := sz_lens r
    by_cases hlt : k < rest.length
    · obtain ⟨x, hxk⟩ : ∃ x, rest[k]? = some x := ⟨_, List.getElem?_eq_getElem hlt⟩
      have hi0 : i < rest.length + 2 := by have := hik.out; omega
      have hi1 : (i : Int) < (rest.length : Int) + 2 := by omega
      have p0 := ((hb.cell (p := ⟨gw, k + 2, none⟩) hgwg).trans (hG1.cell (p := ⟨gw, k + 2, none⟩) hgw)).trans (HCK.out k x hxk)
      rw [← hik.out] at p0
      have hxl := HRL.out k x hxk
      have hnx := HFN.out k x r hT.out hxk
      have hsx := HFS.out k x r hT.out hxk
      cases x with
      | nil =>
        have HZ := Lib.hid (HF0.out (hnx rfl))
        have hsz : (wa ([] : List UInt8)).size = 0 := rfl
        generalize wa ([] : List UInt8) = sx at *
        clear hxk hT hnx hsx
        go_wp2
        all_goals (try (exfalso; omega))
        obtain ⟨z0, z1, z2, z3, z4, -⟩ := five_cells5 (hresr.put5 (y0 := .int .i64 0) (y1 := .int .i64 0) (y2 := .slice none 0 0) (y3 := .slice none 0 0) (y4 := .slice none 0 0))
        exact bodyPost_ret (v := .tuple #[.agg repZ, .bool false]) (by simp [results, Tryd.results28, go_sem, z0, z1, z2, z3, z4]) rfl (HZ.out _ hGr)
      | cons cc t =>
        have hsz : (wa (cc :: t)).size = t.length + 1 := by rw [wa_size]; rfl
        have hsl := wa_tail cc t
        rw [hsz] at hsl
        have hg0 : ∀ (h : 0 < (wa (cc :: t)).size), (wa (cc :: t))[0]'h = cc := fun h => rfl
        simp only [List.length_cons] at hxl
        have hx0 : 0 < (wa (cc :: t)).size := by omega
        have hgx := hg0 hx0
        by_cases c43 : cc = 43
        · subst c43
          rw [putR_1] at hsx
          have HT2 := Lib.hid hsx
          obtain ⟨hgb, hbs, v1, v2, v3, cs, hB, hR⟩ := hPr
          clear hnx hsx hT hxk hg0
          generalize wa (43 :: t) = sx at *
          generalize wa t = tt at *
          have g1 := Gr.alloc wr (.cells #[.string tt] 9)
          have hBx := hB.below g1 hB.lt
          have hRx := hR.gr g1
          have hNx := Blk.new wr 9 #[.string tt]
          obtain ⟨s0, s1, s2, s3, s4⟩ := five_cells hB
          obtain ⟨b0, b1, b2, b3, b4⟩ := five_cells hBx
          go_wp2_with (at_builtin
                       go_loud (refine wpList_appendS _ rfl (.tmp 60) (.tmp 62) rfl (g + 1) v1 _ _ rfl hRx.row1 _ (.string tt) rfl hNx rfl (by omega) (Nat.le_trans hbs g1.size) ?_)
                       intro v6 w6 hr6 hg6 ha6
                       obtain ⟨A6, c6, hv6, -, -⟩ := own_formV hr6
                       subst hv6
                       have hR6 := hRx.app1 (t := tt) hg6 ha6 (by simpa using hr6)
                       have hb6 := own_bel hRx.row1 hg6 (Nat.le_of_lt hgb) (Nat.le_trans hbs g1.size)
                       have hB6 := hBx.grown hg6 (fun e => by have := own_geV hRx.row1 g e.symm; omega)
                       obtain ⟨c0, c1, c2, c3, c4⟩ := five_cells hB6
                       have hfr := hB6.frozen 2)
          all_goals (try (exfalso; omega))
          go_roundw
          case rel => exact ⟨i + 1, k + 1, _, by go_num, Lib.hid (by rw [hik.out]), by omega, Lib.hid HT2.out, ⟨hgb, by rw [size_setG]; exact Nat.le_trans hbs (Nat.le_trans g1.size hb6.size), _, _, _, cs, hB6.set_ 2 _, hR6.far hgb _⟩, below_setG (Below.trans hb (Below.trans (g1.mono (Nat.le_of_lt hB.lt)) hb6)) _⟩
          case measure => simp [intOf]; omega
        · by_cases c33 : cc = 33
          · subst c33
            rw [putR_2] at hsx
            have HT2 := Lib.hid hsx
            obtain ⟨hgb, hbs, v1, v2, v3, cs, hB, hR⟩ := hPr
            clear hnx hsx hT hxk hg0
            generalize wa (33 :: t) = sx at *
            generalize wa t = tt at *
            have g1 := Gr.alloc wr (.cells #[.string tt] 9)
            have hBx := hB.below g1 hB.lt
            have hRx := hR.gr g1
            have hNx := Blk.new wr 9 #[.string tt]
            obtain ⟨s0, s1, s2, s3, s4⟩ := five_cells hB
            obtain ⟨b0, b1, b2, b3, b4⟩ := five_cells hBx
            go_wp2_with (at_builtin
                         go_loud (refine wpList_appendS _ rfl (.tmp 68) (.tmp 70) rfl (g + 1) v2 _ _ rfl hRx.row2 _ (.string tt) rfl hNx rfl (by omega) (Nat.le_trans hbs g1.size) ?_)
                         intro v6 w6 hr6 hg6 ha6
                         obtain ⟨A6, c6, hv6, -, -⟩ := own_formV hr6
                         subst hv6
                         have hR6 := hRx.app2 (t := tt) hg6 ha6 (by simpa using hr6)
                         have hb6 := own_bel hRx.row2 hg6 (Nat.le_of_lt hgb) (Nat.le_trans hbs g1.size)
                         have hB6 := hBx.grown hg6 (fun e => by have := own_geV hRx.row2 g e.symm; omega)
                         obtain ⟨c0, c1, c2, c3, c4⟩ := five_cells hB6
                         have hfr := hB6.frozen 3)
            all_goals (try (exfalso; omega))
            go_roundw
            case rel => exact ⟨i + 1, k + 1, _, by go_num, Lib.hid (by rw [hik.out]), by omega, Lib.hid HT2.out, ⟨hgb, by rw [size_setG]; exact Nat.le_trans hbs (Nat.le_trans g1.size hb6.size), _, _, _, cs, hB6.set_ 3 _, hR6.far hgb _⟩, below_setG (Below.trans hb (Below.trans (g1.mono (Nat.le_of_lt hB.lt)) hb6)) _⟩
            case measure => simp [intOf]; omega
          · have hnm : ∀ q : Nat, q < 256 → cc ≠ UInt8.ofNat q → ((cc.toNat : Int) == (q : Int)) = false := by
              intro q hq hck
              rw [beq_eq_false_iff_ne]
              intro e
              exact hck (by rw [← UInt8.toNat_inj]; simp; omega)
            have e1 : ((cc.toNat : Int) == 43) = false := hnm 43 (by omega) c43
            have e2 : ((cc.toNat : Int) == 33) = false := hnm 33 (by omega) c33
            by_cases c61 : cc = 61
            · subst c61
              have cU := fun W => unhex_any (wa t) t rfl W (by omega)
              cases e : unhR t with
              | none =>
                have HZ := Lib.hid (HF0.out (hnx (by rw [putR, if_neg (by decide), if_neg (by decide), if_pos rfl, e])))
                rw [e] at cU
                simp only [Option.isSome_none] at cU
                clear hnx hsx hT hxk hg0 hnm e
                generalize wa (61 :: t) = sx at *
                generalize wa t = tt at *
                go_wp2_with (go_at_call 57; (with_reducible refine (cU _).mono ?_); rintro e w6 ⟨v6, rfl, -, hb6⟩
                             have hres6 := hresr.below hb6 hresr.lt
                             obtain ⟨y0, y1, y2, y3, y4, r0, r1, r2, r3, r4⟩ := five_cells5 hres6)
                all_goals (try (exfalso; omega))
                obtain ⟨z0, z1, z2, z3, z4, -⟩ := five_cells5 (hres6.put5 (y0 := .int .i64 0) (y1 := .int .i64 0) (y2 := .slice none 0 0) (y3 := .slice none 0 0) (y4 := .slice none 0 0))
                exact bodyPost_ret (v := .tuple #[.agg repZ, .bool false]) (by simp [results, Tryd.results28, go_sem, z0, z1, z2, z3, z4]) rfl (HZ.out _ (Gr.trans hGr hb6))
              | some p =>
                have hsx' : foldW putR (rest.take (k + 1)) ⟨0, n, [], [], []⟩ = some (lstW r p) := by rw [hsx, putR, if_neg (by decide), if_neg (by decide), if_pos rfl, e]
                have HT2 := Lib.hid hsx'
                have hpl := unhR_half t p e
                rw [e] at cU
                simp only [Option.isSome_some] at cU
                obtain ⟨hgb, hbs, v1, v2, v3, cs, hB, hR⟩ := hPr
                have lt1 := own_ltV hR.row1
                have lt2 := own_ltV hR.row2
                have lt3 := own_ltV hR.row3
                obtain ⟨A3, c3, rfl, -, -⟩ := own_formV hR.row3
                clear hnx hsx hsx' hT hxk hg0 hnm e
                generalize wa (61 :: t) = sx at *
                generalize wa t = tt at *
                go_wp2_with (first
                  | (go_at_call 57; (with_reducible refine (cU _).mono ?_); rintro e w6 ⟨v6, rfl, ho6, hb6⟩
                     have hO := ho6 p rfl
                     obtain ⟨A8, c8, hv8, -, -⟩ := own_formV hO
                     subst hv8
                     obtain ⟨s0, s1, s2, s3, s4⟩ := five_cells (hB.below hb6 hB.lt)
                     have gn := Gr.alloc w6 (.cells #[.slice A8 p.length c8] 49)
                     have g1 := Gr.trans hb6 gn
                     have hBx := hB.below g1 hB.lt
                     have hRx := hR.gr g1
                     have hNx := Blk.new w6 49 #[.slice A8 p.length c8]
                     have hOx := hO.gr gn
                     have hkx := own_rkB hOx
                     obtain ⟨b0, b1, b2, b3, b4⟩ := five_cells hBx)
                  | (at_builtin
                     go_loud (refine wpList_appendY _ rfl (.tmp 84) (.tmp 86) rfl (g + 1) _ _ _ rfl hRx.row3 _ (.slice A8 p.length c8) rfl hNx rfl (by omega) (Nat.le_trans hbs g1.size) ?_)
                     intro v7 w7 hr7 hg7 ha7
                     obtain ⟨A6, c6, hv7, -, -⟩ := own_formV hr7
                     subst hv7
                     have hR6 := hRx.app3 (x := p) hg7 ha7 (by simpa using hr7) (hkx.mono fun b hb => ⟨Nat.le_trans hbs hb.1, hb.2, fun e => by have := lt1 b e; omega, fun e => by have := lt2 b e; omega, fun e => by have := lt3 b e; omega⟩)
                     have hb7 := own_bel hRx.row3 hg7 (Nat.le_of_lt hgb) (Nat.le_trans hbs g1.size)
                     have hB6 := hBx.grown hg7 (fun e => by have := own_geV hRx.row3 g e.symm; omega)
                     obtain ⟨c0, c1, c2, c3', c4⟩ := five_cells hB6
                     have hfr := hB6.frozen 4))
                all_goals (try (exfalso; omega))
                go_roundw
                case rel => exact ⟨i + 1, k + 1, _, by go_num, Lib.hid (by rw [hik.out]), by omega, Lib.hid HT2.out, ⟨hgb, by rw [size_setG]; exact Nat.le_trans hbs (Nat.le_trans g1.size hb7.size), _, _, _, _, hB6.set_ 4 _, hR6.far hgb _⟩, below_setG (Below.trans hb (Below.trans (g1.mono (Nat.le_of_lt hB.lt)) hb7)) _⟩
                case measure => simp [intOf]; omega
            · have e3 : ((cc.toNat : Int) == 61) = false := hnm 61 (by omega) c61
              have HZ := Lib.hid (HF0.out (hnx (by rw [putR, if_neg c43, if_neg c33, if_neg c61])))
              clear hnx hsx hT hxk hg0 hnm
              generalize wa (cc :: t) = sx at *
              generalize wa t = tt at *
              go_wp2
              all_goals (try (exfalso; omega))
              obtain ⟨z0, z1, z2, z3, z4, -⟩ := five_cells5 (hresr.put5 (y0 := .int .i64 0) (y1 := .int .i64 0) (y2 := .slice none 0 0) (y3 := .slice none 0 0) (y4 := .slice none 0 0))
              exact bodyPost_ret (v := .tuple #[.agg repZ, .bool false]) (by simp [results, Tryd.results28, go_sem, z0, z1, z2, z3, z4]) rfl (HZ.out _ hGr)
    · obtain rfl : k = rest.length := by omega
      have hi0 : ¬ ((i : Int) < (rest.length : Int) + 2) := by have := hik.out; omega
      have hF := HFE.out r hT.out
      obtain ⟨hgb, hbs, v1, v2, v3, cs, hB, hR⟩ := hPr
      have hrd := hR.rd
      obtain ⟨A1, c1, rfl, -, -⟩ := own_formV hR.row1
      obtain ⟨A2, c2, rfl, -, -⟩ := own_formV hR.row2
      obtain ⟨A3, c3, rfl, -, -⟩ := own_formV hR.row3
      have pa := (hb.cell (p := ⟨gw, 0, none⟩) hgwg).trans p01
      have HZ := Lib.hid (HF1.out r hF)
      clear hF hT hk hresr
      have hresr := hres1.below hb hgs
      go_wp2
      all_goals (try (exfalso; omega))
      have hinv : Blk wr g 26 #[.int .i64 r.err, .int .i64 r.n, .slice A1 r.nms.length c1, .slice A2 r.held.length c2, .slice A3 r.lst.length c3] ∧ Blk wr w.heap.size 26 repZ ∧ RdRep wr (fun b => g + 1 ≤ b ∧ b < wr.heap.size) r (.agg #[.int .i64 r.err, .int .i64 r.n, .slice A1 r.nms.length c1, .slice A2 r.held.length c2, .slice A3 r.lst.length c3]) ∧ Gr w wr ∧ g + 1 ≤ wr.heap.size ∧ wr.cell? ⟨gw, 0, none⟩ = some (.string sa) := ⟨hB, hresr, hrd, hGr, hbs, pa⟩
      have hstayG : ∀ W W', (Blk W g 26 #[.int .i64 r.err, .int .i64 r.n, .slice A1 r.nms.length c1, .slice A2 r.held.length c2, .slice A3 r.lst.length c3] ∧ Blk W w.heap.size 26 repZ ∧ RdRep W (fun b => g + 1 ≤ b ∧ b < W.heap.size) r (.agg #[.int .i64 r.err, .int .i64 r.n, .slice A1 r.nms.length c1, .slice A2 r.held.length c2, .slice A3 r.lst.length c3]) ∧ Gr w W ∧ g + 1 ≤ W.heap.size ∧ W.cell? ⟨gw, 0, none⟩ = some (.string sa)) → Gr W W' → (Blk W' g 26 #[.int .i64 r.err, .int .i64 r.n, .slice A1 r.nms.length c1, .slice A2 r.held.length c2, .slice A3 r.lst.length c3] ∧ Blk W' w.heap.size 26 repZ ∧ RdRep W' (fun b => g + 1 ≤ b ∧ b < W'.heap.size) r (.agg #[.int .i64 r.err, .int .i64 r.n, .slice A1 r.nms.length c1, .slice A2 r.held.length c2, .slice A3 r.lst.length c3]) ∧ Gr w W' ∧ g + 1 ≤ W'.heap.size ∧ W'.cell? ⟨gw, 0, none⟩ = some (.string sa)) :=
        fun W W' h hg => ⟨h.1.below hg h.1.lt, h.2.1.below hg h.2.1.lt, (h.2.2.1.keep fun p hp => hg.cell hp.2).mono fun b hb => ⟨hb.1, Nat.lt_of_lt_of_le hb.2 hg.size⟩, Gr.trans h.2.2.2.1 hg, Nat.le_trans h.2.2.2.2.1 hg.size, (hg.cell (p := ⟨gw, 0, none⟩) (by have := h.2.2.2.2.1; show gw < _; omega)).trans h.2.2.2.2.2⟩
      have hstay : ∀ W', Gr wr W' → _ → _ := fun W' hg h => hstayG wr W' h hg
      cases hok : (sa.toList == [111, 107]) with
      | true =>
        refine wp_region_facts [.is (.agg #[.int .i64 r.err, .int .i64 r.n, .slice A1 r.nms.length c1, .slice A2 r.held.length c2, .slice A3 r.lst.length c3]), .is (.slice (some ⟨gw, 0, none⟩) (rest.length + 2) c), .is (.pointer (some ⟨gw, 0, none⟩)), .is (.string sa), .is (.bool true), .is (.bool true), .is (.int .i64 n), .is (.bool (decide (-1 ≤ n))), .is (.bool (decide (-1 ≤ n))),
          ⟨fun _ W => Blk W w.heap.size 26 #[.int .i64 r.err, .int .i64 r.n, .slice A1 r.nms.length c1, .slice A2 r.held.length c2, .slice A3 r.lst.length c3] ∧ RdRep W (fun b => w.heap.size ≤ b ∧ b < W.heap.size) r (.agg #[.int .i64 r.err, .int .i64 r.n, .slice A1 r.nms.length c1, .slice A2 r.held.length c2, .slice A3 r.lst.length c3]) ∧ Gr w W, fun _ _ _ h hg => ⟨h.1.below hg h.1.lt, (h.2.1.keep fun p hp => hg.cell hp.2).mono fun b hb => ⟨hb.1, Nat.lt_of_lt_of_le hb.2 hg.size⟩, Gr.trans h.2.2 hg⟩⟩, .is (.bool (decide (-1 ≤ n)))]
          (fun W => (Blk W g 26 #[.int .i64 r.err, .int .i64 r.n, .slice A1 r.nms.length c1, .slice A2 r.held.length c2, .slice A3 r.lst.length c3] ∧ Blk W w.heap.size 26 repZ ∧ RdRep W (fun b => g + 1 ≤ b ∧ b < W.heap.size) r (.agg #[.int .i64 r.err, .int .i64 r.n, .slice A1 r.nms.length c1, .slice A2 r.held.length c2, .slice A3 r.lst.length c3]) ∧ Gr w W ∧ g + 1 ≤ W.heap.size ∧ W.cell? ⟨gw, 0, none⟩ = some (.string sa))) (fun _ _ => false) (fun i => i == 9) w.heap.size (by kernel_rfl) rfl (by kernel_rfl) (by kernel_rfl) hGr.size (hstay _ (Gr.drew _) hinv) (fun vals => by simp [fillA, dstsOf, go_sem]; rfl) ?_ ?_
        · intro i hi
          replace hi : i < 11 := hi
          have hI : ∀ W W', (Blk W g 26 #[.int .i64 r.err, .int .i64 r.n, .slice A1 r.nms.length c1, .slice A2 r.held.length c2, .slice A3 r.lst.length c3] ∧ Blk W w.heap.size 26 repZ ∧ RdRep W (fun b => g + 1 ≤ b ∧ b < W.heap.size) r (.agg #[.int .i64 r.err, .int .i64 r.n, .slice A1 r.nms.length c1, .slice A2 r.held.length c2, .slice A3 r.lst.length c3]) ∧ Gr w W ∧ g + 1 ≤ W.heap.size ∧ W.cell? ⟨gw, 0, none⟩ = some (.string sa)) → Gr W W' → (Blk W' g 26 #[.int .i64 r.err, .int .i64 r.n, .slice A1 r.nms.length c1, .slice A2 r.held.length c2, .slice A3 r.lst.length c3] ∧ Blk W' w.heap.size 26 repZ ∧ RdRep W' (fun b => g + 1 ≤ b ∧ b < W'.heap.size) r (.agg #[.int .i64 r.err, .int .i64 r.n, .slice A1 r.nms.length c1, .slice A2 r.held.length c2, .slice A3 r.lst.length c3]) ∧ Gr w W' ∧ g + 1 ≤ W'.heap.size ∧ W'.cell? ⟨gw, 0, none⟩ = some (.string sa)) := fun W W' h hg => hstayG W W' h hg
          rcases (by omega : i = 0 ∨ i = 1 ∨ i = 2 ∨ i = 3 ∨ i = 4 ∨ i = 5 ∨ i = 6 ∨ i = 7 ∨ i = 8 ∨ i = 9 ∨ i = 10) with rfl | rfl | rfl | rfl | rfl | rfl | rfl | rfl | rfl | rfl | rfl
          · refine step_g 0 [] _ _ rfl rfl hI (by kernel_rfl) fun vals W hb hB hIw hd => ?_
            obtain ⟨hBW, -⟩ := hIw (by kernel_rfl)
            obtain ⟨s0, s1, s2, s3, s4⟩ := five_cells hBW
            go_wp2
            exact ⟨rfl, _, rfl, Gr.refl _, rfl⟩
          · refine step_g 1 [] _ _ rfl rfl hI (by kernel_rfl) fun vals W hb hB hIw hd => ?_
            go_wp2
            exact ⟨rfl, _, rfl, Gr.refl _, rfl⟩
          · refine step_g 2 [1] _ _ rfl rfl hI (by kernel_rfl) fun vals W hb hB hIw hd => ?_
            have h0 : vals 1 = _ := hd 1 (by simp) _ rfl
            rw [h0]
            go_wp2
            all_goals (try (exfalso; omega))
            exact ⟨rfl, _, rfl, Gr.refl _, rfl⟩
          · refine step_g 3 [2] _ _ rfl rfl hI (by kernel_rfl) fun vals W hb hB hIw hd => ?_
            have h0 : vals 2 = _ := hd 2 (by simp) _ rfl
            obtain ⟨-, -, -, -, -, hcW⟩ := hIw (by kernel_rfl)
            rw [h0]
            go_wp2
            exact ⟨rfl, _, rfl, Gr.refl _, rfl⟩
          · refine step_g 4 [3] _ _ rfl rfl hI (by kernel_rfl) fun vals W hb hB hIw hd => ?_
            have h0 : vals 3 = _ := hd 3 (by simp) _ rfl
            rw [h0]
            go_wp2
            exact ⟨rfl, _, rfl, Gr.refl _, rfl⟩
          · refine step_g 5 [4] _ _ rfl rfl hI (by kernel_rfl) fun vals W hb hB hIw hd => ?_
            have h0 : vals 4 = _ := hd 4 (by simp) _ rfl
            rw [h0]
            go_wp2
            exact ⟨rfl, _, rfl, Gr.refl _, rfl⟩
          · refine step_g 6 [5] _ _ rfl rfl hI (by kernel_rfl) fun vals W hb hB hIw hd => ?_
            have h0 : vals 5 = _ := hd 5 (by simp) _ rfl
            rw [h0]
            go_wp2
            exact ⟨rfl, _, rfl, Gr.refl _, rfl⟩
          · refine step_g 7 [5, 6] _ _ rfl rfl hI (by kernel_rfl) fun vals W hb hB hIw hd => ?_
            have h0 : vals 5 = _ := hd 5 (by simp) _ rfl
            have h1 : vals 6 = _ := hd 6 (by simp) _ rfl
            rw [h0, h1]
            go_wp2
            exact ⟨rfl, _, rfl, Gr.refl _, rfl⟩
          · refine step_g 8 [5, 7] _ _ rfl rfl hI (by kernel_rfl) fun vals W hb hB hIw hd => ?_
            have h0 : vals 5 = _ := hd 5 (by simp) _ rfl
            have h1 : vals 7 = _ := hd 7 (by simp) _ rfl
            rw [h0, h1]
            go_wp2
            exact ⟨rfl, _, rfl, Gr.refl _, rfl⟩
          · refine step_s 9 [0] [0, 1, 2, 3, 4, 5, 6, 7, 8] _ _ rfl rfl (by kernel_rfl) (by kernel_rfl) fun vals W hb hB hIw hd => ?_
            have h0 : vals 0 = _ := hd 0 (by simp) _ rfl
            obtain ⟨hBW, hZW, hRW, hGW, hsW, hcW⟩ := hIw (by kernel_rfl)
            obtain ⟨y0, y1, y2, y3, y4, j0, j1, j2, j3, j4⟩ := five_cells5 hZW
            rw [h0]
            go_wp2
            refine ⟨rfl, undef, rfl, ?_, ⟨hZW.put5, (hRW.keep fun p hp => set5_far (by have := hp.1; omega) _ _ _ _ _).mono fun b hb => ⟨by have := hb.1; omega, by rw [set5_size]; exact hb.2⟩, gr_set5 hGW _ (Nat.le_refl _) _ _ _ _ _⟩, fun h => (by cases h), fun j hj => ?_⟩
            · exact below_setG (below_setG (below_setG (below_setG (below_setG (Below.refl _ _) _) _) _) _) _
            simp only [List.mem_cons, List.not_mem_nil, or_false] at hj
            rcases hj with rfl | rfl | rfl | rfl | rfl | rfl | rfl | rfl | rfl
            all_goals
              rintro g hg hp; obtain rfl := Option.some.inj hg; exact hp
          · refine step_g 10 [8] _ _ rfl rfl hI (by kernel_rfl) fun vals W hb hB hIw hd => ?_
            have h0 : vals 8 = _ := hd 8 (by simp) _ rfl
            rw [h0]
            go_wp2
            exact ⟨rfl, _, rfl, Gr.refl _, rfl⟩
        · intro vals W3 hb3 hf
          obtain ⟨hBz, hRz, hGz⟩ : Blk W3 w.heap.size 26 #[.int .i64 r.err, .int .i64 r.n, .slice A1 r.nms.length c1, .slice A2 r.held.length c2, .slice A3 r.lst.length c3] ∧ RdRep W3 (fun b => w.heap.size ≤ b ∧ b < W3.heap.size) r (.agg #[.int .i64 r.err, .int .i64 r.n, .slice A1 r.nms.length c1, .slice A2 r.held.length c2, .slice A3 r.lst.length c3]) ∧ Gr w W3 := hf 9 _ rfl (fun k hk => by simp)
          have h10 : vals 10 = _ := hf 10 _ rfl (fun k hk => by simp)
          rw [h10]
          go_wp2
          obtain ⟨z0, z1, z2, z3, z4⟩ := five_cells hBz
          have hd : decide (a = bOk ∧ -1 ≤ n) = (decide (-1 ≤ n)) := by
            rw [HNOK.out] at hok
            have hax := of_decide_eq_true hok
            simp [hax]
          exact bodyPost_ret (v := .tuple #[.agg #[.int .i64 r.err, .int .i64 r.n, .slice A1 r.nms.length c1, .slice A2 r.held.length c2, .slice A3 r.lst.length c3], .bool (decide (-1 ≤ n))]) (by simp [results, Tryd.results28, go_sem, z0, z1, z2, z3, z4]) rfl (HZ.out W3 _ _ _ _ _ _ _ _ _ _ _ _ hd hRz hGz)
      | false =>
        refine wp_region_facts [.is (.agg #[.int .i64 r.err, .int .i64 r.n, .slice A1 r.nms.length c1, .slice A2 r.held.length c2, .slice A3 r.lst.length c3]), .is (.slice (some ⟨gw, 0, none⟩) (rest.length + 2) c), .is (.pointer (some ⟨gw, 0, none⟩)), .is (.string sa), .is (.bool false), .is (.bool false), .is undef, .is undef, .is (.bool false),
          ⟨fun _ W => Blk W w.heap.size 26 #[.int .i64 r.err, .int .i64 r.n, .slice A1 r.nms.length c1, .slice A2 r.held.length c2, .slice A3 r.lst.length c3] ∧ RdRep W (fun b => w.heap.size ≤ b ∧ b < W.heap.size) r (.agg #[.int .i64 r.err, .int .i64 r.n, .slice A1 r.nms.length c1, .slice A2 r.held.length c2, .slice A3 r.lst.length c3]) ∧ Gr w W, fun _ _ _ h hg => ⟨h.1.below hg h.1.lt, (h.2.1.keep fun p hp => hg.cell hp.2).mono fun b hb => ⟨hb.1, Nat.lt_of_lt_of_le hb.2 hg.size⟩, Gr.trans h.2.2 hg⟩⟩, .is (.bool false)]
          (fun W => (Blk W g 26 #[.int .i64 r.err, .int .i64 r.n, .slice A1 r.nms.length c1, .slice A2 r.held.length c2, .slice A3 r.lst.length c3] ∧ Blk W w.heap.size 26 repZ ∧ RdRep W (fun b => g + 1 ≤ b ∧ b < W.heap.size) r (.agg #[.int .i64 r.err, .int .i64 r.n, .slice A1 r.nms.length c1, .slice A2 r.held.length c2, .slice A3 r.lst.length c3]) ∧ Gr w W ∧ g + 1 ≤ W.heap.size ∧ W.cell? ⟨gw, 0, none⟩ = some (.string sa))) (fun _ _ => false) (fun i => i == 9) w.heap.size (by kernel_rfl) rfl (by kernel_rfl) (by kernel_rfl) hGr.size (hstay _ (Gr.drew _) hinv) (fun vals => by simp [fillA, dstsOf, go_sem]; rfl) ?_ ?_
        · intro i hi
          replace hi : i < 11 := hi
          have hI : ∀ W W', (Blk W g 26 #[.int .i64 r.err, .int .i64 r.n, .slice A1 r.nms.length c1, .slice A2 r.held.length c2, .slice A3 r.lst.length c3] ∧ Blk W w.heap.size 26 repZ ∧ RdRep W (fun b => g + 1 ≤ b ∧ b < W.heap.size) r (.agg #[.int .i64 r.err, .int .i64 r.n, .slice A1 r.nms.length c1, .slice A2 r.held.length c2, .slice A3 r.lst.length c3]) ∧ Gr w W ∧ g + 1 ≤ W.heap.size ∧ W.cell? ⟨gw, 0, none⟩ = some (.string sa)) → Gr W W' → (Blk W' g 26 #[.int .i64 r.err, .int .i64 r.n, .slice A1 r.nms.length c1, .slice A2 r.held.length c2, .slice A3 r.lst.length c3] ∧ Blk W' w.heap.size 26 repZ ∧ RdRep W' (fun b => g + 1 ≤ b ∧ b < W'.heap.size) r (.agg #[.int .i64 r.err, .int .i64 r.n, .slice A1 r.nms.length c1, .slice A2 r.held.length c2, .slice A3 r.lst.length c3]) ∧ Gr w W' ∧ g + 1 ≤ W'.heap.size ∧ W'.cell? ⟨gw, 0, none⟩ = some (.string sa)) := fun W W' h hg => hstayG W W' h hg
          rcases (by omega : i = 0 ∨ i = 1 ∨ i = 2 ∨ i = 3 ∨ i = 4 ∨ i = 5 ∨ i = 6 ∨ i = 7 ∨ i = 8 ∨ i = 9 ∨ i = 10) with rfl | rfl | rfl | rfl | rfl | rfl | rfl | rfl | rfl | rfl | rfl
          · refine step_g 0 [] _ _ rfl rfl hI (by kernel_rfl) fun vals W hb hB hIw hd => ?_
            obtain ⟨hBW, -⟩ := hIw (by kernel_rfl)
            obtain ⟨s0, s1, s2, s3, s4⟩ := five_cells hBW
            go_wp2
            exact ⟨rfl, _, rfl, Gr.refl _, rfl⟩
          · refine step_g 1 [] _ _ rfl rfl hI (by kernel_rfl) fun vals W hb hB hIw hd => ?_
            go_wp2
            exact ⟨rfl, _, rfl, Gr.refl _, rfl⟩
          · refine step_g 2 [1] _ _ rfl rfl hI (by kernel_rfl) fun vals W hb hB hIw hd => ?_
            have h0 : vals 1 = _ := hd 1 (by simp) _ rfl
            rw [h0]
            go_wp2
            all_goals (try (exfalso; omega))
            exact ⟨rfl, _, rfl, Gr.refl _, rfl⟩
          · refine step_g 3 [2] _ _ rfl rfl hI (by kernel_rfl) fun vals W hb hB hIw hd => ?_
            have h0 : vals 2 = _ := hd 2 (by simp) _ rfl
            obtain ⟨-, -, -, -, -, hcW⟩ := hIw (by kernel_rfl)
            rw [h0]
            go_wp2
            exact ⟨rfl, _, rfl, Gr.refl _, rfl⟩
          · refine step_g 4 [3] _ _ rfl rfl hI (by kernel_rfl) fun vals W hb hB hIw hd => ?_
            have h0 : vals 3 = _ := hd 3 (by simp) _ rfl
            rw [h0]
            go_wp2
            exact ⟨rfl, _, rfl, Gr.refl _, rfl⟩
          · refine step_g 5 [4] _ _ rfl rfl hI (by kernel_rfl) fun vals W hb hB hIw hd => ?_
            have h0 : vals 4 = _ := hd 4 (by simp) _ rfl
            rw [h0]
            go_wp2
            exact ⟨rfl, _, rfl, Gr.refl _, rfl⟩
          · refine step_g 6 [5] _ _ rfl rfl hI (by kernel_rfl) fun vals W hb hB hIw hd => ?_
            have h0 : vals 5 = _ := hd 5 (by simp) _ rfl
            rw [h0]
            go_wp2
            exact ⟨rfl, _, rfl, Gr.refl _, rfl⟩
          · refine step_g 7 [5, 6] _ _ rfl rfl hI (by kernel_rfl) fun vals W hb hB hIw hd => ?_
            have h0 : vals 5 = _ := hd 5 (by simp) _ rfl
            have h1 : vals 6 = _ := hd 6 (by simp) _ rfl
            rw [h0, h1]
            go_wp2
            exact ⟨rfl, _, rfl, Gr.refl _, rfl⟩
          · refine step_g 8 [5, 7] _ _ rfl rfl hI (by kernel_rfl) fun vals W hb hB hIw hd => ?_
            have h0 : vals 5 = _ := hd 5 (by simp) _ rfl
            have h1 : vals 7 = _ := hd 7 (by simp) _ rfl
            rw [h0, h1]
            go_wp2
            exact ⟨rfl, _, rfl, Gr.refl _, rfl⟩
          · refine step_s 9 [0] [0, 1, 2, 3, 4, 5, 6, 7, 8] _ _ rfl rfl (by kernel_rfl) (by kernel_rfl) fun vals W hb hB hIw hd => ?_
            have h0 : vals 0 = _ := hd 0 (by simp) _ rfl
            obtain ⟨hBW, hZW, hRW, hGW, hsW, hcW⟩ := hIw (by kernel_rfl)
            obtain ⟨y0, y1, y2, y3, y4, j0, j1, j2, j3, j4⟩ := five_cells5 hZW
            rw [h0]
            go_wp2
            refine ⟨rfl, undef, rfl, ?_, ⟨hZW.put5, (hRW.keep fun p hp => set5_far (by have := hp.1; omega) _ _ _ _ _).mono fun b hb => ⟨by have := hb.1; omega, by rw [set5_size]; exact hb.2⟩, gr_set5 hGW _ (Nat.le_refl _) _ _ _ _ _⟩, fun h => (by cases h), fun j hj => ?_⟩
            · exact below_setG (below_setG (below_setG (below_setG (below_setG (Below.refl _ _) _) _) _) _) _
            simp only [List.mem_cons, List.not_mem_nil, or_false] at hj
            rcases hj with rfl | rfl | rfl | rfl | rfl | rfl | rfl | rfl | rfl
            all_goals
              rintro g hg hp; obtain rfl := Option.some.inj hg; exact hp
          · refine step_g 10 [8] _ _ rfl rfl hI (by kernel_rfl) fun vals W hb hB hIw hd => ?_
            have h0 : vals 8 = _ := hd 8 (by simp) _ rfl
            rw [h0]
            go_wp2
            exact ⟨rfl, _, rfl, Gr.refl _, rfl⟩
        · intro vals W3 hb3 hf
          obtain ⟨hBz, hRz, hGz⟩ : Blk W3 w.heap.size 26 #[.int .i64 r.err, .int .i64 r.n, .slice A1 r.nms.length c1, .slice A2 r.held.length c2, .slice A3 r.lst.length c3] ∧ RdRep W3 (fun b => w.heap.size ≤ b ∧ b < W3.heap.size) r (.agg #[.int .i64 r.err, .int .i64 r.n, .slice A1 r.nms.length c1, .slice A2 r.held.length c2, .slice A3 r.lst.length c3]) ∧ Gr w W3 := hf 9 _ rfl (fun k hk => by simp)
          have h10 : vals 10 = _ := hf 10 _ rfl (fun k hk => by simp)
          rw [h10]
          go_wp2
          obtain ⟨z0, z1, z2, z3, z4⟩ := five_cells hBz
          have hd : decide (a = bOk ∧ -1 ≤ n) = false := by
            rw [HNOK.out] at hok
            have hax := of_decide_eq_false hok
            simp [hax]
          exact bodyPost_ret (v := .tuple #[.agg #[.int .i64 r.err, .int .i64 r.n, .slice A1 r.nms.length c1, .slice A2 r.held.length c2, .slice A3 r.lst.length c3], .bool false]) (by simp [results, Tryd.results28, go_sem, z0, z1, z2, z3, z4]) rfl (HZ.out W3 _ _ _ _ _ _ _ _ _ _ _ _ hd hRz hGz)
end Go.Proofs.YtppnlijeonneeaaDoor

namespace Go.Proofs.YtppnlijeonneeaaDoor
open Go Go.RowKit Go.Sort

theorem read_any (ws : List (List UInt8)) (v : Value) (base : Nat) (w : World) (hO : OwnT w base v (ws.map wa)) (hsum : sumO ws ≤ 5001) : Calls Tryd.prog 28 #[v] w (PRead (candR ws) w) := by
  have hcnt : ∀ m : List (List UInt8), m.length ≤ sumO m ∧ ∀ x ∈ m, x.length ≤ sumO m := by
    intro m
    induction m with
    | nil => exact ⟨Nat.le_refl _, fun x h => by cases h⟩
    | cons y m ih =>
      rw [sumO_cons, List.length_cons]
      refine ⟨by omega, fun x h => ?_⟩
      rcases List.mem_cons.1 h with rfl | h
      · omega
      · have := ih.2 x h; omega
  obtain ⟨A, c, rfl, hc, hr⟩ := own_rkV hO
  rw [List.length_map] at hc hr ⊢
  by_cases h : ws.length < 2
  · exact read_few ws A c w hc h
  · rcases ws with _ | ⟨a, _ | ⟨b, rest⟩⟩
    · simp at h
    · simp at h
    · rw [sumO_cons, sumO_cons] at hsum
      have h1 := hcnt rest
      rw [show (a :: b :: rest).length = rest.length + 2 from rfl] at hc hr ⊢
      rcases hO.2 with ⟨e, h0⟩ | ⟨gw, cap, cur, e, hge, hgt, _⟩
      · simp at h0
      · injection e with e _ _
        subst e
        have hcell : ∀ (k : Nat) (x : List UInt8), (a :: b :: rest)[k]? = some x → w.cell? ⟨gw, k, none⟩ = some (.string (wa x)) := by
          intro k x hx
          obtain ⟨ad, e2, -, hcc⟩ := hr.2 (by omega)
          cases e2
          have := hcc k (.string (wa x)) (by rw [List.getElem?_map, List.getElem?_map, hx]; rfl)
          have e3 : (⟨gw, 0, none⟩ : Addr).add k = ⟨gw, k, none⟩ := by
            unfold Addr.add
            split
            · rename_i h0; simp_all
            · simp
          rwa [e3] at this
        have hlt : gw < w.heap.size := (Array.getElem?_eq_some_iff.1 hgt).1
        by_cases ha : a = bError
        · subst ha
          exact read_err b rest gw c w hc hlt hcell (by omega)
        · exact read_num a b rest gw c w ha hc hlt hcell (by omega) (by omega) (by omega) (fun x hx => by have := h1.2 x hx; omega)
set_option maxRecDepth 100000 in
set_option maxHeartbeats 2000000 in
theorem rparse_long (l : List UInt8) (w : World) (hl : l.length ≤ 5000) (h : 4000 < l.length) : Calls Tryd.prog 10 #[.string (wa l)] w (PParR (parseO candR l) w) := by
  have hp : parseO candR l = (Rep.zero, 2) := by unfold parseO; rw [if_pos h]
  have hF : PParR (parseO candR l) w (.returned (.tuple #[.agg repZ, .int .i64 2])) (w.alloc (.cells repZ 26)) := by
    rw [hp]
    exact ⟨_, rfl, rep0 _ _ 0 0, Gr.alloc _ _⟩
  generalize PParR (parseO candR l) w = Post at *
  have hsz : (wa l).size = l.length := wa_size l
  have f1 : 4000 < (wa l).size := by omega
  have f2 : (wa l).size ≤ 5000 := by omega
  clear hsz hp
  have hB := Blk.new w 26 repZ
  generalize wa l = s at *
  go_enter Tryd.func10, Tryd.ntmps10
  go_wp2
  all_goals (try (exfalso; omega))
  obtain ⟨z0, z1, z2, z3, z4⟩ := five_cells hB
  exact bodyPost_ret (v := .tuple #[.agg repZ, .int .i64 2]) (by simp [results, Tryd.results10, go_sem, z0, z1, z2, z3, z4]) rfl hF
set_option maxRecDepth 100000 in
set_option maxHeartbeats 8000000 in
theorem rparse_short (l : List UInt8) (w : World) (hl : l.length ≤ 4000) : Calls Tryd.prog 10 #[.string (wa l)] w (PParR (parseO candR l) w) := by
  have hp : parseO candR l = match candR (splW l) with
      | none => (Rep.zero, 2)
      | some r => if mayR r ∧ textO r = l then (r, 0) else (Rep.zero, 2) := by
    unfold parseO
    rw [if_neg (by omega)]
    cases candR (splW l) <;> rfl
  have cW := fun W => swords_any (wa l) W (by rw [wa_size]; omega)
  rw [wa_data] at cW
  have cR := fun W v base (h : OwnT W base v ((splW l).map wa)) => read_any (splW l) v base W h (by rw [sum_spl]; omega)
  have hsz : (wa l).size = l.length := wa_size l
  have f2 : (wa l).size ≤ 4000 := by omega
  have HS := Lib.hid (rfl : wa l = wa l)
  have cM : ∀ W v r, RdRep W (· < W.heap.size) r v → szW r ≤ 5000 → Calls Tryd.prog 16 #[v] W fun e w' => e = .returned (.bool (decide (mayR r))) ∧ Gr W w' := fun W v r hr hs => rmayR_any r v W hr (fun a ha => by have := (sz_lens r).2.2.2.1 a ha; omega) (fun a ha => by have := (sz_lens r).2.2.2.2.1 a ha; omega)
  have cT : ∀ W v r, RdRep W (· < W.heap.size) r v → szW r ≤ 5000 → mayR r → Calls Tryd.prog 12 #[v] W fun e w' => e = .returned (.string (wa (textO r))) ∧ Gr W w' := fun W v r hr hs hm => by
    have hm' := hm
    obtain ⟨m1, m2, m3, m4, _⟩ := hm'
    exact rtextO_any r v W hr (by omega) (by omega) (by omega) (by omega) (by have := textO_sz r (by omega) (by omega) (by omega) (by omega); omega)
  have hss : ∀ r, candR (splW l) = some r → szW r ≤ 5000 := by
    intro r h
    rcases e : splW l with _ | ⟨a, _ | ⟨b, rest⟩⟩
    · rw [e] at h; cases h
    · rw [e] at h; cases h
    · have hs := sum_spl l
      rw [e, sumO_cons, sumO_cons] at hs
      rw [e, candR] at h
      split at h
      · split at h
        · cases h; exact Nat.zero_le _
        · cases h
      · cases ef : foldW putR rest ⟨0, numRW b, [], [], []⟩ with
        | none => rw [ef] at h; cases h
        | some q =>
          rw [ef] at h
          dsimp only at h
          split at h
          · cases h
            have h1 := sz_fold putR (fun w r r' => sz_putR) _ _ _ ef
            rw [show szW ⟨0, numRW b, [], [], []⟩ = 0 from rfl] at h1
            omega
          · cases h
  have hg0 := Gr.alloc w (.cells repZ 26)
  have hB0 := Blk.new w 26 repZ
  have hF0 : candR (splW l) = none → ∀ W, Gr w W → PParR (parseO candR l) w (.returned (.tuple #[.agg repZ, .int .i64 2])) (set5v W w.heap.size (.int .i64 0) (.int .i64 0) (.slice none 0 0) (.slice none 0 0) (.slice none 0 0)) := fun h W hg => PParR.zero (by rw [hp, h]) hg
  have hF1 : ∀ r, candR (splW l) = some r → ¬ (mayR r ∧ textO r = l) → ∀ W, Gr w W → PParR (parseO candR l) w (.returned (.tuple #[.agg repZ, .int .i64 2])) (set5v W w.heap.size (.int .i64 0) (.int .i64 0) (.slice none 0 0) (.slice none 0 0) (.slice none 0 0)) := fun r h hm W hg => PParR.zero (by rw [hp, h]; dsimp only; rw [if_neg hm]) hg
  have hF2 : ∀ r, candR (splW l) = some r → mayR r → textO r = l → ∀ W x0 x1 x2 x3 x4, RdRep W (fun b => w.heap.size + 1 ≤ b ∧ b < W.heap.size) r (.agg #[x0, x1, x2, x3, x4]) → Gr w W → PParR (parseO candR l) w (.returned (.tuple #[.agg #[x0, x1, x2, x3, x4], .int .i64 0])) (set5v W w.heap.size x0 x1 x2 x3 x4) := fun r h hm ht W x0 x1 x2 x3 x4 hr hg => PParR.done (by rw [hp, h]; dsimp only; rw [if_pos ⟨hm, ht⟩]) hr hg
  generalize PParR (parseO candR l) w = Post at *
  clear hp hsz
  unfold PRead at cR
  have HF0 := Lib.hid hF0
  have HF1 := Lib.hid hF1
  have HF2 := Lib.hid hF2
  have HM := Lib.hid cM
  have HT := Lib.hid cT
  have HSS := Lib.hid hss
  clear hF0 hF1 hF2 cM cT hss
  obtain ⟨s, hs⟩ : ∃ s, wa l = s := ⟨_, rfl⟩
  have HS := Lib.hid hs
  rw [hs] at cW f2 ⊢
  clear hs
  cases hcand : candR (splW l) with
  | none =>
    have HZ := Lib.hid (HF0.out hcand)
    rw [hcand] at cR
    simp only [Option.isSome_none] at cR
    generalize (splW l).map wa = ws at *
    go_enter Tryd.func10, Tryd.ntmps10
    go_wp2_with (first
      | (go_at_call 29; (with_reducible refine (cW _).mono ?_); rintro e w1 ⟨⟨v1, rfl, hO1⟩, hb1⟩
         have hres1 := hB0.below hb1 hB0.lt)
      | (go_at_call 28; (with_reducible refine (cR _ _ _ hO1).mono ?_); rintro e w2 ⟨er, n, A1, A2, A3, n1, c1, n2, c2, n3, c3, rfl, -, hb2⟩
         have hgn := Gr.alloc w2 (.cells #[.int .i64 er, .int .i64 n, .slice A1 n1 c1, .slice A2 n2 c2, .slice A3 n3 c3] 26)
         have hres2 := (hres1.below hb2 hres1.lt).below hgn (hres1.below hb2 hres1.lt).lt
         obtain ⟨y0, y1, y2, y3, y4, j0, j1, j2, j3, j4⟩ := five_cells5 hres2))
    all_goals (try (exfalso; omega))
    obtain ⟨z0, z1, z2, z3, z4, -⟩ := five_cells5 (hres2.put5 (y0 := .int .i64 0) (y1 := .int .i64 0) (y2 := .slice none 0 0) (y3 := .slice none 0 0) (y4 := .slice none 0 0))
    exact bodyPost_ret (v := .tuple #[.agg repZ, .int .i64 2]) (by simp [results, Tryd.results10, go_sem, z0, z1, z2, z3, z4]) rfl (HZ.out _ (Gr.trans hg0 (Gr.trans hb1 (Gr.trans hb2 hgn))))
  | some r =>
    have hs5 := HSS.out r hcand
    rw [hcand] at cR
    simp only [Option.isSome_some] at cR
    by_cases hm : mayR r
    · have cMr := fun W v h => HM.out W v r h hs5
      simp only [decide_eq_true hm] at cMr
      by_cases ht : textO r = l
      · have HZ := Lib.hid (HF2.out r hcand hm ht)
        have cTr := fun W v h => HT.out W v r h hs5 hm
        rw [ht, HS.out] at cTr
        clear hcand ht hm
        generalize (splW l).map wa = ws at *
        go_enter Tryd.func10, Tryd.ntmps10
        go_wp2_with (first
          | (go_at_call 29; (with_reducible refine (cW _).mono ?_); rintro e w1 ⟨⟨v1, rfl, hO1⟩, hb1⟩
             have hres1 := hB0.below hb1 hB0.lt)
          | (go_at_call 28; (with_reducible refine (cR _ _ _ hO1).mono ?_); rintro e w2 ⟨er, n, A1, A2, A3, n1, c1, n2, c2, n3, c3, rfl, hrd, hb2⟩
             have hrd := hrd r rfl
             have hgn := Gr.alloc w2 (.cells #[.int .i64 er, .int .i64 n, .slice A1 n1 c1, .slice A2 n2 c2, .slice A3 n3 c3] 26)
             have hBn := Blk.new w2 26 #[.int .i64 er, .int .i64 n, .slice A1 n1 c1, .slice A2 n2 c2, .slice A3 n3 c3]
             have hres2 := (hres1.below hb2 hres1.lt).below hgn (hres1.below hb2 hres1.lt).lt
             have hrn := (hrd.mono (K' := (· < w2.heap.size)) fun _ h => h.2).gr hgn
             have hG2 := Gr.trans hg0 (Gr.trans hb1 (Gr.trans hb2 hgn)))
          | (go_at_call 16; (with_reducible refine (cMr _ _ hrn).mono ?_); rintro e w5 ⟨rfl, hb5⟩
             have hB5 := hBn.below hb5 hBn.lt
             obtain ⟨t0, t1, t2, t3, t4⟩ := five_cells hB5
             have hr5 := hrn.gr hb5)
          | (go_at_call 12; (with_reducible refine (cTr _ _ hr5).mono ?_); rintro e w6 ⟨rfl, hb6⟩
             have hg6 := Gr.trans hgn (Gr.trans hb5 hb6)
             obtain ⟨x0, x1, x2, x3, x4⟩ := five_cells (hB5.below hb6 hB5.lt)
             have hres6 := hres2.below (Gr.trans hb5 hb6) hres2.lt
             obtain ⟨y0, y1, y2, y3, y4, j0, j1, j2, j3, j4⟩ := five_cells5 hres6))
        all_goals (try (exfalso; omega))
        obtain ⟨z0, z1, z2, z3, z4, -⟩ := five_cells5 (hres6.put5 (y0 := .int .i64 er) (y1 := .int .i64 n) (y2 := .slice A1 n1 c1) (y3 := .slice A2 n2 c2) (y4 := .slice A3 n3 c3))
        exact bodyPost_ret (v := .tuple #[.agg #[.int .i64 er, .int .i64 n, .slice A1 n1 c1, .slice A2 n2 c2, .slice A3 n3 c3], .int .i64 0]) (by simp [results, Tryd.results10, go_sem, z0, z1, z2, z3, z4]) rfl (HZ.out _ _ _ _ _ _ ((hrd.keep fun p hp => hg6.cell hp.2).mono fun b hb => ⟨by have h1 := hb.1; have h2 := Nat.lt_of_lt_of_le hB0.lt hb1.size; omega, Nat.lt_of_lt_of_le hb.2 hg6.size⟩) (Gr.trans hG2 (Gr.trans hb5 hb6)))
      · have HZ := Lib.hid (HF1.out r hcand fun h => ht h.2)
        have cTr := fun W v h => HT.out W v r h hs5 hm
        have hne : wa (textO r) ≠ s := by rw [← HS.out]; exact fun h => ht (wa_inj h)
        obtain ⟨n1', n2'⟩ := str_neqW hne
        generalize wa (textO r) = tt at *
        clear hcand ht hm hne
        generalize (splW l).map wa = ws at *
        go_enter Tryd.func10, Tryd.ntmps10
        go_wp2_with (first
          | (go_at_call 29; (with_reducible refine (cW _).mono ?_); rintro e w1 ⟨⟨v1, rfl, hO1⟩, hb1⟩
             have hres1 := hB0.below hb1 hB0.lt)
          | (go_at_call 28; (with_reducible refine (cR _ _ _ hO1).mono ?_); rintro e w2 ⟨er, n, A1, A2, A3, n1, c1, n2, c2, n3, c3, rfl, hrd, hb2⟩
             have hrd := hrd r rfl
             have hgn := Gr.alloc w2 (.cells #[.int .i64 er, .int .i64 n, .slice A1 n1 c1, .slice A2 n2 c2, .slice A3 n3 c3] 26)
             have hBn := Blk.new w2 26 #[.int .i64 er, .int .i64 n, .slice A1 n1 c1, .slice A2 n2 c2, .slice A3 n3 c3]
             have hres2 := (hres1.below hb2 hres1.lt).below hgn (hres1.below hb2 hres1.lt).lt
             have hrn := (hrd.mono (K' := (· < w2.heap.size)) fun _ h => h.2).gr hgn
             have hG2 := Gr.trans hg0 (Gr.trans hb1 (Gr.trans hb2 hgn)))
          | (go_at_call 16; (with_reducible refine (cMr _ _ hrn).mono ?_); rintro e w5 ⟨rfl, hb5⟩
             have hB5 := hBn.below hb5 hBn.lt
             obtain ⟨t0, t1, t2, t3, t4⟩ := five_cells hB5
             have hr5 := hrn.gr hb5)
          | (go_at_call 12; (with_reducible refine (cTr _ _ hr5).mono ?_); rintro e w6 ⟨rfl, hb6⟩
             have hres6 := hres2.below (Gr.trans hb5 hb6) hres2.lt
             obtain ⟨y0, y1, y2, y3, y4, j0, j1, j2, j3, j4⟩ := five_cells5 hres6))
        all_goals (try (exfalso; omega))
        obtain ⟨z0, z1, z2, z3, z4, -⟩ := five_cells5 (hres6.put5 (y0 := .int .i64 0) (y1 := .int .i64 0) (y2 := .slice none 0 0) (y3 := .slice none 0 0) (y4 := .slice none 0 0))
        exact bodyPost_ret (v := .tuple #[.agg repZ, .int .i64 2]) (by simp [results, Tryd.results10, go_sem, z0, z1, z2, z3, z4]) rfl (HZ.out _ (Gr.trans hG2 (Gr.trans hb5 hb6)))
    · have cMr := fun W v h => HM.out W v r h hs5
      simp only [decide_eq_false hm] at cMr
      have HZ := Lib.hid (HF1.out r hcand fun h => hm h.1)
      clear hcand hm
      generalize (splW l).map wa = ws at *
      go_enter Tryd.func10, Tryd.ntmps10
      go_wp2_with (first
        | (go_at_call 29; (with_reducible refine (cW _).mono ?_); rintro e w1 ⟨⟨v1, rfl, hO1⟩, hb1⟩
           have hres1 := hB0.below hb1 hB0.lt)
        | (go_at_call 28; (with_reducible refine (cR _ _ _ hO1).mono ?_); rintro e w2 ⟨er, n, A1, A2, A3, n1, c1, n2, c2, n3, c3, rfl, hrd, hb2⟩
           have hrd := hrd r rfl
           have hgn := Gr.alloc w2 (.cells #[.int .i64 er, .int .i64 n, .slice A1 n1 c1, .slice A2 n2 c2, .slice A3 n3 c3] 26)
           have hres2 := (hres1.below hb2 hres1.lt).below hgn (hres1.below hb2 hres1.lt).lt
           have hrn := (hrd.mono (K' := (· < w2.heap.size)) fun _ h => h.2).gr hgn
           have hG2 := Gr.trans hg0 (Gr.trans hb1 (Gr.trans hb2 hgn)))
        | (go_at_call 16; (with_reducible refine (cMr _ _ hrn).mono ?_); rintro e w5 ⟨rfl, hb5⟩
           have hres6 := hres2.below hb5 hres2.lt
           obtain ⟨y0, y1, y2, y3, y4, j0, j1, j2, j3, j4⟩ := five_cells5 hres6))
      all_goals (try (exfalso; omega))
      obtain ⟨z0, z1, z2, z3, z4, -⟩ := five_cells5 (hres6.put5 (y0 := .int .i64 0) (y1 := .int .i64 0) (y2 := .slice none 0 0) (y3 := .slice none 0 0) (y4 := .slice none 0 0))
      exact bodyPost_ret (v := .tuple #[.agg repZ, .int .i64 2]) (by simp [results, Tryd.results10, go_sem, z0, z1, z2, z3, z4]) rfl (HZ.out _ (Gr.trans hG2 hb5))
theorem rparse_any (l : List UInt8) (w : World) (hl : l.length ≤ 5000) : Calls Tryd.prog 10 #[.string (wa l)] w (PParR (parseO candP l) w) := by
  rw [parseO_eq]
  by_cases h : 4000 < l.length
  · exact rparse_long l w hl h
  · exact rparse_short l w (by omega)
end Go.Proofs.YtppnlijeonneeaaDoor
