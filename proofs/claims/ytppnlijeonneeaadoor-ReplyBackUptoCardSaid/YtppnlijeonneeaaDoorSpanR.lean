/- The walks of the reference's Tell, Number, Text and Parse of layer 15. -/
import Derived.Test.YtppnlijeonneeaaDoorSpanN
import Derived.LoopTactic
namespace Go.Proofs.YtppnlijeonneeaaDoor
open Go Go.RowKit Go.Sort

theorem digit_ext : ∀ k, k < 10 → (⟨#[48, 49, 50, 51, 52, 53, 54, 55, 56, 57]⟩ : ByteArray).extract k (k + 1) = str [UInt8.ofNat (48 + k)] := by decide
/-- What is still to be told, and what was. -/
def Tl (n m : Nat) (t : ByteArray) : Prop := Lib.decDigits n = (if m = 0 then [] else Lib.decDigits m) ++ t.data.toList
theorem Tl.start (n : Nat) : Tl n (n / 10) ((⟨#[48, 49, 50, 51, 52, 53, 54, 55, 56, 57]⟩ : ByteArray).extract (n % 10) (n % 10 + 1)) := by
  rw [digit_ext _ (Nat.mod_lt _ (by omega))]
  unfold Tl
  rw [Lib.decDigits]
  split
  · rename_i h
    rw [if_pos (by omega), Nat.mod_eq_of_lt h]; rfl
  · rw [if_neg (by omega)]; rfl
theorem Tl.step {n m : Nat} {t : ByteArray} (h : Tl n m t) (hm : 0 < m) : Tl n (m / 10) ((⟨#[48, 49, 50, 51, 52, 53, 54, 55, 56, 57]⟩ : ByteArray).extract (m % 10) (m % 10 + 1) ++ t) := by
  have s := Tl.start m
  unfold Tl at *
  rw [h, if_neg (by omega), s, ByteArray.data_append, Array.toList_append, List.append_assoc]
theorem Tl.size {n m : Nat} {t : ByteArray} (h : Tl n m t) (hn : n < 18446744073709551616) : t.size ≤ 20 := by
  have l := decDigits_le 19 n (by omega)
  rw [h, List.length_append] at l
  have : t.data.toList.length = t.size := by simp
  omega
theorem Tl.fin {n : Nat} {t : ByteArray} (h : Tl n 0 t) : t = str (Lib.decDigits n) := by
  unfold Tl at h
  rw [if_pos rfl, List.nil_append] at h
  apply ByteArray.ext
  rw [h]
  rfl
theorem Tl.room {n m : Nat} {t : ByteArray} (h : Tl n m t) (hn : n < 18446744073709551616) : ¬ 9223372036854775807 < ((⟨#[48, 49, 50, 51, 52, 53, 54, 55, 56, 57]⟩ : ByteArray).extract (m % 10) (m % 10 + 1)).size + t.size := by
  have := h.size hn
  rw [digit_ext _ (Nat.mod_lt _ (by omega))]
  show ¬ 9223372036854775807 < 1 + t.size
  omega

set_option maxRecDepth 100000 in
set_option maxHeartbeats 2000000 in
theorem tell_any (n : Nat) (w : World) (h : n < 18446744073709551616) : Calls Tryd.prog 60 #[.int .u64 n] w fun e w' => e = .returned (.string (str (Lib.decDigits n))) ∧ w' = w := by
  go_enter Tryd.func60, Tryd.ntmps60
  go_wp2
  go_loop [0, 3] (fun v0 v3 => ∃ (m : Nat) (t : ByteArray), v0 = .int .u64 m ∧ v3 = .string t ∧ m < 18446744073709551616 ∧ Tl n m t) (fun v0 _ => (intOf v0).toNat)
  case atStart => exact ⟨n / 10, _, by go_num, rfl, by omega, Tl.start n⟩
  case round =>
    obtain ⟨m, t, rfl, rfl, hm, ht⟩ := hrel
    have HT := Lib.hid ht
    clear ht
    by_cases hp : 0 < m
    · have rm := HT.out.room h
      go_wp2
      go_round
      case rel => exact ⟨m / 10, _, by go_num, rfl, by omega, HT.out.step hp⟩
      case measure => simp [intOf]; omega
    · obtain rfl : m = 0 := by omega
      go_wp2
      go_ret
      exact ⟨ret_str HT.out.fin, rfl⟩

set_option maxRecDepth 100000 in
set_option maxHeartbeats 2000000 in
theorem Tell_any (n : Int) (w : World) (h0 : 0 ≤ n) (h1 : n ≤ 9223372036854775807) : Calls Tryd.prog 35 #[.int .i64 n] w fun e w' => e = .returned (.string (str (Lib.itoa n))) ∧ w = w' := by
  obtain ⟨m, rfl⟩ : ∃ m : Nat, n = m := ⟨n.toNat, by omega⟩
  rw [Lib.itoa_nonneg]
  go_enter Tryd.func35, Tryd.ntmps35
  go_wp2_with (go_at_call 60; refine (tell_any m _ (by omega)).mono ?_; rintro e w' ⟨rfl, rfl⟩)
  go_ret
  exact ⟨rfl, rfl⟩

theorem head_is (s : ByteArray) (h : 0 < s.size) : s.data.toList.head? = some s[0] := by
  rw [List.head?_eq_getElem?, List.getElem?_eq_getElem (by simpa using h)]
  rfl
theorem at_is (s : ByteArray) (k : Nat) (h : k < s.size) : s.data.toList.drop k = s[k] :: s.data.toList.drop (k + 1) := by
  rw [List.drop_eq_getElem_cons (by simpa using h)]
  rfl
/-- The loop: what is still to be read. -/
def Nm (l : List UInt8) (k acc : Nat) : Prop := Lib.decFrom 0 l = Lib.decFrom acc (l.drop k) ∧ acc < 10 ^ k
theorem Nm.start (l : List UInt8) : Nm l 0 0 := ⟨rfl, by omega⟩
theorem Nm.bad {s : ByteArray} {k acc : Nat} (h : Nm s.data.toList k acc) (hk : k < s.size) (hb : (s[k].toNat : Int) < 48 ∨ 57 < (s[k].toNat : Int)) : Lib.decFrom 0 s.data.toList = none := by
  rw [h.1, at_is s k hk]
  have : Lib.digitVal s[k] = none := by unfold Lib.digitVal; rw [if_neg (by omega)]
  simp only [Lib.decFrom, this]
theorem Nm.step {s : ByteArray} {k acc : Nat} (h : Nm s.data.toList k acc) (hk : k < s.size) (h1 : 48 ≤ (s[k].toNat : Int)) (h2 : (s[k].toNat : Int) ≤ 57) : Nm s.data.toList (k + 1) (10 * acc + (s[k].toNat - 48)) := by
  refine ⟨?_, ?_⟩
  · rw [h.1, at_is s k hk]
    have : Lib.digitVal s[k] = some (s[k].toNat - 48) := by unfold Lib.digitVal; rw [if_pos (by omega)]
    simp only [Lib.decFrom, this]
    rw [Nat.mul_comm]
  · have := h.2
    rw [Nat.pow_succ]
    omega
theorem Nm.fin {s : ByteArray} {acc : Nat} (h : Nm s.data.toList s.size acc) : Lib.decFrom 0 s.data.toList = some acc := by
  rw [h.1, List.drop_eq_nil_of_le (by simp)]
  rfl

set_option maxRecDepth 100000 in
set_option maxHeartbeats 2000000 in
theorem number_no (s : ByteArray) (most : Int) (w : World) (hs : s.size ≤ 140737488351232) (h : s.size < 1 ∨ most < s.size) : Calls Tryd.prog 84 #[.string s, .int .i64 most] w fun e w' => e = .returned (.int .i64 (-1)) ∧ w = w' := by
  have key : (s.size < 1) ∨ (1 ≤ s.size ∧ most < s.size) := by omega
  clear h
  rcases key with h | ⟨h, h'⟩
  all_goals
    go_enter Tryd.func84, Tryd.ntmps84
    go_wp2
    go_ret
    exact ⟨rfl, rfl⟩
set_option maxRecDepth 100000 in
set_option maxHeartbeats 2000000 in
theorem number_zero (s : ByteArray) (most : Int) (w : World) (hs : s.size ≤ 140737488351232) (h1 : 1 < s.size) (h2 : s.size ≤ most) (hz : ((s[0].toNat : Int) == 48) = true) : Calls Tryd.prog 84 #[.string s, .int .i64 most] w fun e w' => e = .returned (.int .i64 (-1)) ∧ w = w' := by
  go_enter Tryd.func84, Tryd.ntmps84
  go_wp2
  go_ret
  exact ⟨rfl, rfl⟩
set_option maxRecDepth 100000 in
set_option maxHeartbeats 2000000 in
theorem number_yes (s : ByteArray) (most : Int) (w : World) (hs : s.size ≤ 18) (h1 : 1 ≤ s.size) (h2 : s.size ≤ most) (hz : 1 < s.size → ((s[0].toNat : Int) == 48) = false) : Calls Tryd.prog 84 #[.string s, .int .i64 most] w fun e w' => e = .returned (.int .i64 (match Lib.decFrom 0 s.data.toList with | some n => (n : Int) | none => -1)) ∧ w = w' := by
  obtain ⟨R, hR⟩ : ∃ R : Int, R = (match Lib.decFrom 0 s.data.toList with | some n => (n : Int) | none => -1) := ⟨_, rfl⟩
  rw [← hR]
  have HR := Lib.hid hR
  clear hR
  rcases (by omega : s.size < 2 ∨ 1 < s.size) with hc | hc
  all_goals
    try (have hz0 := hz hc)
    clear hz
    go_enter Tryd.func84, Tryd.ntmps84
    go_wp2
    clear hc
    try clear hz0
    go_loop [5, 6] (fun v5 v6 => ∃ k acc : Nat, v5 = .int .i64 acc ∧ v6 = .int .i64 k ∧ k ≤ s.size ∧ Nm s.data.toList k acc) (fun _ v6 => s.size - (intOf v6).toNat)
    case atStart => exact ⟨0, 0, rfl, rfl, by omega, Nm.start _⟩
    case round =>
      obtain ⟨k, acc, rfl, rfl, hk, hN⟩ := hrel
      have HN := Lib.hid hN
      by_cases hlt : k < s.size
      · have hacc : acc < 100000000000000000 := Nat.lt_of_lt_of_le hN.2 (Nat.pow_le_pow_right (by omega) (by omega : k ≤ 17))
        clear hN
        go_wp2
        all_goals first
          | (go_ret; refine ⟨ret_int ?_, rfl⟩; rw [HR.out, HN.out.bad hlt (by omega)])
          | (go_round
             case rel => exact ⟨k + 1, 10 * acc + (s[k].toNat - 48), by congr 1; omega, by go_num, by omega, HN.out.step hlt (by omega) (by omega)⟩
             case measure => simp [intOf]; omega)
      · clear hN
        go_wp2
        go_ret
        have e : k = s.size := by omega
        refine ⟨ret_int ?_, rfl⟩
        rw [HR.out, (e ▸ HN.out : Nm s.data.toList s.size acc).fin]

theorem number_any (s : ByteArray) (w : World) (hs : s.size ≤ 140737488351232) : Calls Tryd.prog 84 #[.string s, .int .i64 7] w fun e w' => e = .returned (.int .i64 (numD s.data.toList 7)) ∧ w = w' := by
  have hl : s.data.toList.length = s.size := by simp
  by_cases h : s.size < 1 ∨ 7 < s.size
  · have e : numD s.data.toList 7 = -1 := by rw [numD, if_pos (by omega)]
    rw [e]; exact number_no s 7 w hs (by omega)
  · by_cases hz : 1 < s.size ∧ s.data.toList.head? = some 48
    · have e : numD s.data.toList 7 = -1 := by rw [numD, if_pos (.inr (.inr ⟨by omega, hz.2⟩))]
      rw [e]
      have := hz.2
      rw [head_is s (by omega)] at this
      exact number_zero s 7 w hs hz.1 (by omega) (by rw [Option.some.inj this]; rfl)
    · have e : numD s.data.toList 7 = (match Lib.decFrom 0 s.data.toList with | some n => (n : Int) | none => -1) := by
        refine if_neg ?_
        rintro (h' | h' | h')
        · omega
        · omega
        · exact hz ⟨by omega, h'.2⟩
      rw [e]
      refine number_yes s 7 w (by omega) (by omega) (by omega) (fun h1 => ?_)
      have hne : s[0] ≠ 48 := by
        intro e0
        exact hz ⟨h1, by rw [head_is s (by omega), e0]⟩
      have : s[0].toNat ≠ 48 := fun e1 => hne (UInt8.toNat_inj.mp e1)
      simpa using (by omega : ¬ ((s[0].toNat : Int) = 48))

/-- What both sides read of a text. -/
def parseN (s : ByteArray) : Int × Int :=
  if s.size < 2 ∨ unitD (lastD s) = 0 ∨ numD (s.data.toList.take (s.size - 1)) 7 < 0 then (0, 2) else daysD (numD (s.data.toList.take (s.size - 1)) 7) (lastD s)
theorem parse_num (s : ByteArray) : parseD s = parseN s := by
  have hl : (s.data.toList.take (s.size - 1)).length = s.size - 1 := by simp
  by_cases h : s.size < 2 ∨ unitD (lastD s) = 0
  · rw [parseD, parseN, if_pos (by omega), if_pos (by omega)]
  · by_cases h8 : 8 < s.size
    · have e : numD (s.data.toList.take (s.size - 1)) 7 = -1 := by rw [numD, if_pos (by omega)]
      rw [parseD, parseN, if_pos (by omega), if_pos (by omega)]
    · rw [parseD, parseN, if_neg (by omega)]
      rcases atoi_num (s.data.toList.take (s.size - 1)) (by omega) (by omega) with ⟨v, ha, hi, hn⟩ | ⟨ha, hn⟩
      · rw [ha, hn, if_neg (by omega)]
        simp only []
        rw [if_neg]
        rintro (h' | h')
        · omega
        · exact h' hi
      · rw [hn, if_pos (by omega)]
        rcases hc : Lib.atoiAll (s.data.toList.take (s.size - 1)) with v | _ | _
        · simp only []; rw [if_pos (ha v hc)]
        · rfl
        · rfl

end Go.Proofs.YtppnlijeonneeaaDoor
