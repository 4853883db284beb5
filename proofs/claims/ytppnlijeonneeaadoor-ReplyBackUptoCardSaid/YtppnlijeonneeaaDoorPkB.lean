/- Scopes: has one few parts? may it be? the reference's counts. Scopes as texts: the reference's kid. Scopes as texts: the reference's text of a leaf that has a name, or is all. Scopes as texts: the reference's text of a time. -/
import Derived.Test.YtppnlijeonneeaaDoorPkA
import Derived.Test.YtppnlijeonneeaaDoorGenS
import Derived.Test.YtppnlijeonneeaaDoorSpanX
import Derived.Lib.QuietBelow
namespace Go.Proofs.YtppnlijeonneeaaDoor
open Go Go.RowKit Go.Sort

theorem ret_w {a b : Int} (h : a = b) : Ending.returned (.int .i64 a) = Ending.returned (.int .i64 b) := by rw [h]
theorem rnamed_yes (op : Int) (w : World) (h : op = 2 ∨ op = 3 ∨ op = 4) : Calls Tryd.prog 93 #[.int .i64 op] w fun e w' => e = .returned (.bool true) ∧ w = w' := by
  rcases h with rfl | rfl | rfl
  all_goals
    go_enter Tryd.func93, Tryd.ntmps93
    go_wp2
    go_ret
    exact ⟨rfl, rfl⟩
theorem rnamed_no (op : Int) (w : World) (h : op = 1 ∨ op = 5 ∨ op = 6 ∨ op = 7 ∨ op = 8) : Calls Tryd.prog 93 #[.int .i64 op] w fun e w' => e = .returned (.bool false) ∧ w = w' := by
  rcases h with rfl | rfl | rfl | rfl | rfl
  all_goals
    go_enter Tryd.func93, Tryd.ntmps93
    go_wp2
    go_ret
    exact ⟨rfl, rfl⟩
set_option maxRecDepth 100000 in
set_option maxHeartbeats 8000000 in
theorem small_n : ∀ (N : Nat) (x : Sc) (v : Value) (w : World) (n d : Nat), SizeOf.sizeOf x ≤ N → RdSc w (· < w.heap.size) x v → n ≤ 1000 → d ≤ 1000 →
    Calls Tryd.prog 43 #[v, .int .i64 (n : Int), .int .i64 (d : Int)] w fun e w' => e = .returned (.int .i64 (optW (smallS x n d))) ∧ Gr w w'
  | 0, .mk op nm fr to_ ks, v, w, n, d, hN, _, _, _ => by
    have : 0 < SizeOf.sizeOf (Sc.mk op nm fr to_ ks) := by rw [Sc.mk.sizeOf_spec]; omega
    omega
  | N + 1, .mk op nm fr to_ ks, v, w, n, d, hN, hx, hn, hd => by
    have ih := small_n N
    obtain ⟨A, c, vs, rfl, ⟨hc, hcm⟩, hr, hl⟩ := hx.form
    clear hx
    unfold maxLen at hcm
    have hsz : ∀ (k : Nat) (x : Sc), ks[k]? = some x → SizeOf.sizeOf x ≤ N := by
      intro k x hx
      have h1 := List.sizeOf_lt_of_mem (List.mem_of_getElem? hx)
      have h2 : SizeOf.sizeOf (Sc.mk op nm fr to_ ks) = 1 + SizeOf.sizeOf op + SizeOf.sizeOf nm + SizeOf.sizeOf fr + SizeOf.sizeOf to_ + SizeOf.sizeOf ks := Sc.mk.sizeOf_spec op nm fr to_ ks
      omega
    by_cases h0 : n = 0 ∨ d = 0 ∨ n < ks.length ∨ 100 < nm.size
    · rw [smallS, if_pos h0]
      simp only [optW]
      rcases (by omega : n < 1 ∨ (1 ≤ n ∧ d < 1) ∨ (1 ≤ n ∧ 1 ≤ d ∧ (n : Int) < (ks.length : Int)) ∨ (1 ≤ n ∧ 1 ≤ d ∧ (ks.length : Int) ≤ (n : Int) ∧ 100 < nm.size)) with h | ⟨h, h'⟩ | ⟨h, h', h''⟩ | ⟨h, h', h'', h'''⟩
      all_goals
        clear h0 hsz ih
        go_enter Tryd.func43, Tryd.ntmps43
        go_wp2
        all_goals (try (exfalso; omega))
        go_ret
        exact ⟨rfl, Gr.alloc _ _⟩
    · rw [smallS, if_neg h0]
      have h1 : 1 ≤ n := by omega
      have h2 : 1 ≤ d := by omega
      have h3 : (ks.length : Int) ≤ (n : Int) := by omega
      have h4 : nm.size ≤ 100 := by omega
      have f1 : decide (n < ks.length) = false := decide_eq_false (by omega)
      clear h0
      obtain ⟨M, hM⟩ : ∃ M, n - 1 = M := ⟨_, rfl⟩
      obtain ⟨D, hD⟩ : ∃ D, d - 1 = D := ⟨_, rfl⟩
      rw [hM, hD]
      have hM2 : (n : Int) - 1 = (M : Int) := by omega
      have hD2 : (d : Int) - 1 = (D : Int) := by omega
      have HO := Lib.hid (show ∀ st, smallL ks M D = st → optW (smallL ks M D) = optW st from fun st h => by rw [h])
      have hdm : D ≤ 1000 := by omega
      have hmm : M ≤ 1000 := by omega
      generalize hQ : smallL ks M D = Q at HO ⊢
      have HQ := Lib.hid hQ
      generalize hOQ : optW Q = oq at HO ⊢
      clear hQ hM hD hOQ
      go_enter Tryd.func43, Tryd.ntmps43
      go_wp2
      all_goals (try (exfalso; omega))
      go_loopw [1, 7] (fun v1 v7 wr => ∃ (k : Nat) (st : Option Nat), v7 = .int .i64 (k : Int) ∧ v1 = .int .i64 (optW st) ∧ k ≤ ks.length ∧ (∀ m, st = some m → m ≤ 1000) ∧ CntTo smallL ks M D k st ∧ Gr w wr ∧ wr.cell? ⟨w.heap.size, 4, none⟩ = some (.slice A ks.length c)) (fun _ v7 _ => ks.length - (intOf v7).toNat)
      case atStart => exact ⟨0, some M, rfl, by simp only [optW], Nat.zero_le _, by simp; omega, rfl, Gr.alloc _ _, (Blk.new w 39 _).cell 4⟩
      case round =>
        obtain ⟨k, st, rfl, rfl, hk, hst, hT, hgw, b3⟩ := hrel
        have hblt := block_lt_of_cell b3
        cases st with
        | none =>
          have hz := HO.out _ (HQ.out ▸ hT.none)
          have HZ := Lib.hid hz
          rw [optW_none]
          clear hT hst hz
          by_cases hlt : k < ks.length
          · go_wp2
            all_goals (try (exfalso; omega))
            go_ret
            exact ⟨ret_w (by rw [HZ.out]; rfl), hgw⟩
          · go_wp2
            all_goals (try (exfalso; omega))
            go_ret
            exact ⟨ret_w (by rw [HZ.out]; rfl), hgw⟩
        | some m =>
          have hm1 := hst m rfl
          rw [optW_some]
          by_cases hlt : k < ks.length
          · obtain ⟨x, hxk⟩ : ∃ x, ks[k]? = some x := ⟨_, List.getElem?_eq_getElem hlt⟩
            obtain ⟨ad, P, v0, v1, v2, v3, v4, rfl, eP, hP, c0, c1, c2, c3, c4, hsx⟩ := kid_cells (hr.gr hgw) (hl.gr hgw) rfl k x hxk
            have hT2 := Lib.hid (hT.step small_cnt hxk)
            have hlt2 : ∀ q, smallS x m D = some q → q ≤ 1000 := fun q hq => by have := (smallS_ok x m D q hq).1; omega
            have HL2 := Lib.hid hlt2
            have cL := ih x _ wr m D (hsz k x hxk) hsx hm1 hdm
            generalize smallS x m D = st2 at *
            clear hT hst hxk hlt2
            go_wp2_with (go_at_call 43; (with_reducible refine cL.mono ?_); rintro e w1 ⟨rfl, hb1⟩)
            all_goals (try (exfalso; omega))
            go_roundw
            case rel => exact ⟨k + 1, st2, by go_num, rfl, by omega, HL2.out, hT2.out, Gr.trans hgw hb1, (hb1.cell hblt).trans b3⟩
            case measure => simp [intOf]; omega
          · obtain rfl : k = ks.length := by omega
            have hz := HO.out _ (HQ.out ▸ hT.end_ small_cnt)
            have HZ := Lib.hid hz
            clear hT hst hz
            go_wp2
            all_goals (try (exfalso; omega))
            go_ret
            exact ⟨ret_w (by rw [HZ.out]; rfl), hgw⟩
theorem Small_any (x : Sc) (v : Value) (w : World) (hx : RdSc w (· < w.heap.size) x v) : Calls Tryd.prog 17 #[v] w fun e w' => e = .returned (.bool (smallS x 60 30).isSome) ∧ Gr w w' := by
  obtain ⟨op, nm, fr, to_, ks⟩ := x
  obtain ⟨A, c, vs, rfl, _⟩ := hx.form
  have cL : ∀ W, Gr w W → Calls Tryd.prog 43 #[.agg #[.int .i64 op, .string nm, .int .i64 fr, .int .i64 to_, .slice A ks.length c], .int .i64 60, .int .i64 30] W fun e w' => e = .returned (.int .i64 (optW (smallS (.mk op nm fr to_ ks) 60 30))) ∧ Gr W w' := fun W hg => small_n _ (.mk op nm fr to_ ks) _ W 60 30 (Nat.le_refl _) (hx.gr hg) (by omega) (by omega)
  have hz : (smallS (.mk op nm fr to_ ks) 60 30).isSome = decide (0 ≤ optW (smallS (.mk op nm fr to_ ks) 60 30)) := by
    cases smallS (.mk op nm fr to_ ks) 60 30 with
    | none => rfl
    | some m => simp [optW]
  rw [hz]
  generalize optW (smallS (.mk op nm fr to_ ks) 60 30) = q at *
  clear hz
  go_enter Tryd.func17, Tryd.ntmps17
  go_wp2_with (go_at_call 43; (with_reducible refine (cL _ (Gr.alloc _ _)).mono ?_); rintro e w1 ⟨rfl, hb1⟩)
  go_ret
  exact ⟨rfl, Gr.trans (Gr.alloc _ _) hb1⟩
end Go.Proofs.YtppnlijeonneeaaDoor

namespace Go.Proofs.YtppnlijeonneeaaDoor
open Go Go.RowKit Go.Sort

set_option maxRecDepth 100000 in
set_option maxHeartbeats 4000000 in
theorem rkid_any (k : Sc) (v : Value) (op : Int) (w : World) (hx : RdSc w (· < w.heap.size) k v) (hlen : (textS k).length ≤ 1000)
    (cT : ∀ W, Gr w W → Calls Tryd.prog 47 #[v] W fun e w' => e = .returned (.string (wa (textS k))) ∧ Gr W w') :
    Calls Tryd.prog 68 #[v, .int .i64 op] w fun e w' => e = .returned (.string (wa (parW op k (textS k)))) ∧ Gr w w' := by
  obtain ⟨o, nm, fr, to_, ks⟩ := k
  obtain ⟨A, c, vs, rfl, _⟩ := hx.form
  have g1 := Gr.alloc w (.cells #[.int .i64 o, .string nm, .int .i64 fr, .int .i64 to_, .slice A ks.length c] 39)
  have hB := Blk.new w 39 #[.int .i64 o, .string nm, .int .i64 fr, .int .i64 to_, .slice A ks.length c]
  have hp : ∀ b : Bool, decide (o = 7 ∨ (o = 6 ∧ op ≠ 7)) = b → wa (parW op (.mk o nm fr to_ ks) (textS (.mk o nm fr to_ ks))) = if b = true then ⟨#[40, 32]⟩ ++ wa (textS (.mk o nm fr to_ ks)) ++ ⟨#[32, 41]⟩ else wa (textS (.mk o nm fr to_ ks)) := by
    intro b hb
    unfold parW
    show wa (if o = 7 ∨ (o = 6 ∧ op ≠ 7) then _ else _) = _
    cases b with
    | true =>
      rw [if_pos (of_decide_eq_true hb), if_pos rfl, show (⟨#[40, 32]⟩ : ByteArray) = wa [40, 32] from rfl, show (⟨#[32, 41]⟩ : ByteArray) = wa [32, 41] from rfl, wa_append, wa_append]
    | false => rw [if_neg (of_decide_eq_false hb), if_neg (by simp)]
  have hsz : (wa (textS (.mk o nm fr to_ ks))).size ≤ 1000 := by rw [wa_size]; exact hlen
  have cT2 := cT _ g1
  have h5 : (⟨#[40, 32]⟩ ++ wa (textS (.mk o nm fr to_ ks)) : ByteArray).size ≤ 1002 := by rw [ByteArray.size_append]; show 2 + _ ≤ _; omega
  generalize textS (.mk o nm fr to_ ks) = t at *
  have HP := Lib.hid hp
  clear hp hlen cT hx
  rcases (by omega : o = 7 ∨ (o = 6 ∧ op ≠ 7) ∨ (o = 6 ∧ op = 7) ∨ (o ≠ 6 ∧ o ≠ 7)) with rfl | ⟨rfl, h⟩ | ⟨rfl, rfl⟩ | ⟨h6, h7⟩
  · rw [HP.out true (by simp)]
    go_enter Tryd.func68, Tryd.ntmps68
    go_wp2_with (go_at_call 47; (with_reducible refine cT2.mono ?_); rintro e w1 ⟨rfl, hb1⟩; obtain ⟨r0, r1, r2, r3, r4⟩ := five_cells (hB.below hb1 hB.lt))
    all_goals (try (exfalso; omega))
    go_ret
    exact ⟨rfl, Gr.trans g1 hb1⟩
  · rw [HP.out true (by simp [h])]
    have y : (op == 7) = false := beq_eq_false_iff_ne.2 h
    go_enter Tryd.func68, Tryd.ntmps68
    go_wp2_with (go_at_call 47; (with_reducible refine cT2.mono ?_); rintro e w1 ⟨rfl, hb1⟩; obtain ⟨r0, r1, r2, r3, r4⟩ := five_cells (hB.below hb1 hB.lt))
    all_goals (try (exfalso; omega))
    go_ret
    exact ⟨rfl, Gr.trans g1 hb1⟩
  · rw [HP.out false (by simp)]
    go_enter Tryd.func68, Tryd.ntmps68
    go_wp2_with (go_at_call 47; (with_reducible refine cT2.mono ?_); rintro e w1 ⟨rfl, hb1⟩; obtain ⟨r0, r1, r2, r3, r4⟩ := five_cells (hB.below hb1 hB.lt))
    all_goals (try (exfalso; omega))
    go_ret
    exact ⟨rfl, Gr.trans g1 hb1⟩
  · rw [HP.out false (by simp [h6, h7])]
    have y6 : (o == 6) = false := beq_eq_false_iff_ne.2 h6
    have y7 : (o == 7) = false := beq_eq_false_iff_ne.2 h7
    go_enter Tryd.func68, Tryd.ntmps68
    go_wp2_with (go_at_call 47; (with_reducible refine cT2.mono ?_); rintro e w1 ⟨rfl, hb1⟩; obtain ⟨r0, r1, r2, r3, r4⟩ := five_cells (hB.below hb1 hB.lt))
    all_goals (try (exfalso; omega))
    go_ret
    exact ⟨rfl, Gr.trans g1 hb1⟩
end Go.Proofs.YtppnlijeonneeaaDoor

namespace Go.Proofs.YtppnlijeonneeaaDoor
open Go Go.RowKit Go.Sort

theorem named_wa (l : List UInt8) (nm : ByteArray) : (⟨l.toArray⟩ : ByteArray) ++ nm = wa (l ++ nm.data.toList) := by
  have h := wa_append l nm.data.toList
  rw [data_wa] at h
  exact h
set_option maxRecDepth 100000 in
set_option maxHeartbeats 4000000 in
theorem rtext_name (op : Int) (nm : ByteArray) (fr to_ : Int) (A : Option Addr) (len c : Nat) (w : World) (hs : nm.size ≤ 2000) (h : op = 1 ∨ op = 2 ∨ op = 3 ∨ op = 4) (ks : List Sc) :
    Calls Tryd.prog 47 #[.agg #[.int .i64 op, .string nm, .int .i64 fr, .int .i64 to_, .slice A len c]] w fun e w' => e = .returned (.string (wa (textS (.mk op nm fr to_ ks)))) ∧ Gr w w' := by
  rw [textS]
  rcases h with rfl | rfl | rfl | rfl
  · rw [if_pos rfl]
    go_enter Tryd.func47, Tryd.ntmps47
    go_wp2
    all_goals (try (exfalso; omega))
    go_ret
    exact ⟨rfl, Gr.alloc _ _⟩
  · rw [if_neg (by omega), if_pos (by omega), show wordW 2 ++ [32] = [99, 97, 115, 101, 32] from rfl, ← named_wa]
    go_enter Tryd.func47, Tryd.ntmps47
    go_wp2
    all_goals (try (exfalso; omega))
    go_ret
    exact ⟨rfl, Gr.alloc _ _⟩
  · rw [if_neg (by omega), if_pos (by omega), show wordW 3 ++ [32] = [115, 117, 98, 106, 101, 99, 116, 32] from rfl, ← named_wa]
    go_enter Tryd.func47, Tryd.ntmps47
    go_wp2
    all_goals (try (exfalso; omega))
    go_ret
    exact ⟨rfl, Gr.alloc _ _⟩
  · rw [if_neg (by omega), if_pos (by omega), show wordW 4 ++ [32] = [99, 108, 97, 115, 115, 32] from rfl, ← named_wa]
    go_enter Tryd.func47, Tryd.ntmps47
    go_wp2
    all_goals (try (exfalso; omega))
    go_ret
    exact ⟨rfl, Gr.alloc _ _⟩
end Go.Proofs.YtppnlijeonneeaaDoor

namespace Go.Proofs.YtppnlijeonneeaaDoor
open Go Go.RowKit Go.Sort

theorem time_text {nm : ByteArray} {fr to_ : Int} {ks : List Sc} : wa (textS (.mk 5 nm fr to_ ks)) = ((⟨#[116, 105, 109, 101, 32]⟩ ++ wa (Lib.itoa fr)) ++ ⟨#[45]⟩) ++ wa (Lib.itoa to_) := by
  rw [textS, if_neg (by omega), if_neg (by omega), if_pos rfl, show (⟨#[116, 105, 109, 101, 32]⟩ : ByteArray) = wa [116, 105, 109, 101, 32] from rfl, show (⟨#[45]⟩ : ByteArray) = wa [45] from rfl, wa_append, wa_append, wa_append]
set_option maxRecDepth 100000 in
set_option maxHeartbeats 4000000 in
theorem rtext_time (nm : ByteArray) (fr to_ : Int) (A : Option Addr) (len c : Nat) (w : World) (h0 : 0 ≤ fr) (h1 : fr ≤ to_) (h2 : to_ ≤ 1099511627776) (ks : List Sc) :
    Calls Tryd.prog 47 #[.agg #[.int .i64 5, .string nm, .int .i64 fr, .int .i64 to_, .slice A len c]] w fun e w' => e = .returned (.string (wa (textS (.mk 5 nm fr to_ ks)))) ∧ Gr w w' := by
  rw [time_text]
  have s1 : (wa (Lib.itoa fr)).size ≤ 13 := by rw [wa_size]; exact itoa_13 h0 (by omega)
  have s2 : (wa (Lib.itoa to_)).size ≤ 13 := by rw [wa_size]; exact itoa_13 (n := to_) (by omega) h2
  have c1 := fun W => Tell_any fr W (by omega) (by omega)
  have c2 := fun W => Tell_any to_ W (by omega) (by omega)
  rw [show str (Lib.itoa fr) = wa (Lib.itoa fr) from rfl] at c1
  rw [show str (Lib.itoa to_) = wa (Lib.itoa to_) from rfl] at c2
  generalize wa (Lib.itoa fr) = a at *
  generalize wa (Lib.itoa to_) = b at *
  have k1 := fun n => quiet_samen (c1 ((w.alloc (.cells #[.int .i64 5, .string nm, .int .i64 fr, .int .i64 to_, .slice A len c] 39)).drewN n))
  have k2 := fun n => quiet_samen (c2 ((w.alloc (.cells #[.int .i64 5, .string nm, .int .i64 fr, .int .i64 to_, .slice A len c] 39)).drewN n))
  have z1 : ¬ 9223372036854775807 < 5 + a.size := by omega
  have z2 : ¬ 9223372036854775807 < 5 + a.size + 1 := by omega
  have z3 : ¬ 9223372036854775807 < 5 + a.size + 1 + b.size := by omega
  clear c1 c2 h0 h1 h2 s1 s2
  go_enter Tryd.func47, Tryd.ntmps47
  go_wp2
  go_quiet ((first | with_reducible exact k1 _ | with_reducible exact k2 _))
  go_wp2
  go_ret
  exact ⟨rfl, Gr.trans (Gr.alloc _ _) (Gr.drewN _ _)⟩
end Go.Proofs.YtppnlijeonneeaaDoor
