/- Sealed sectors: the program's Get. -/
import Derived.Test.YtlbldmpiaebeeaaDoorSeD
import Derived.ScopeJumps
import Derived.WalkMore
namespace Go.Proofs.YtlbldmpiaebeeaaDoor
open Go Go.RowKit

/-- A scope in which the run jumps to one label: what stands behind the label is walked once. -/
theorem wp_scope_label {P : Program} {a : Act} {w : World} {Q : Exit → Act → World → Prop} {c rest : Code} (l : Nat) (J : Act → World → Prop) (μ : Act → World → Nat) (hf : findLabel c l = some (Code.skip.seq rest))
    (pass : ∀ a w, J a w → rest.wp P (Exit.jump l (fun a' w' => J a' w' ∧ μ a' w' < μ a w) Q) a w)
    (first : (∀ a w, J a w → rest.wp P (Exit.jump l J Q) a w) → c.wp P (Exit.jump l J Q) a w) : (Code.scope c).wp P Q a w := by
  refine wp_scope_jumps l J μ hf (first fun a w h => Code.wp_mono ?_ (pass a w h)) fun a w h => wp_seq (wp_skip (pass a w h))
  intro e a' w' h
  cases e <;> first | exact h | exact ⟨h.1, h.2.1⟩
set_option maxRecDepth 100000 in
theorem or_bytes (a b : Nat) (ha : a < 256) (hb : b < 256) : bits .or .i64 ((a : Int) * 256) (b : Int) = (a : Int) * 256 + b := by
  have e1 : ((a : Int) * 256) = ((a * 256 : Nat) : Int) := by omega
  have e2 : (BitVec.ofNat 64 (a * 256) ||| BitVec.ofNat 64 b).toNat = a * 256 + b := by
    rw [BitVec.toNat_or, BitVec.toNat_ofNat, BitVec.toNat_ofNat, Nat.mod_eq_of_lt (by omega), Nat.mod_eq_of_lt (by omega)]
    have := Nat.two_pow_add_eq_or_of_lt (i := 8) hb a
    rw [show a * 256 = 2 ^ 8 * a by omega, ← this]
  rw [e1]
  have e3 : bits .or .i64 ((a * 256 : Nat) : Int) (b : Int) = IntKind.i64.wrap ((BitVec.ofInt 64 ((a * 256 : Nat) : Int) ||| BitVec.ofInt 64 (b : Int)).toNat : Int) := rfl
  rw [e3, BitVec.ofInt_natCast, BitVec.ofInt_natCast, e2, IntKind.wrap_i64]
  omega
theorem run_sub (W : World) (ad : Addr) (c n : Nat) (h : 3 + n ≤ c) : (Instr.slice 22 (.slice (some ad) 256 c) (some (.int .i64 3)) (some (.int .i64 (3 + (n : Int)))) none).run Tryd.prog W = .ok (.slice (some (if c = 3 then ad else ⟨ad.block, ad.off + 3, none⟩)) n (c - 3)) W := by
  have ht : Tryd.prog.underlying 22 = some (.slice (Tryd.prog.elem 22)) := by kernel_rfl
  rw [run_slice_lh W 22 (some ad) 256 c ht .i64 .i64 3 (3 + (n : Int)) (by omega) (by omega) (by omega)]
  have hz : (sizeOf (Tryd.prog.elem 22)).run Tryd.prog W = .ok 1 W := by kernel_rfl
  rw [hz]
  have e : (3 + (n : Int)).toNat = 3 + n := by omega
  simp only [Result.andThen_ok, sliced, e]
  rw [show 3 + n - (3 : Int).toNat = n by omega, show (3 : Int).toNat = 3 from rfl]
  split <;> rfl
theorem rd_byte {w : World} {B c : Nat} {ad : Addr} {n : Nat} {l : List UInt8} (h : RdB w B (.slice (some ad) n c) l) (k : Nat) (hk : k < l.length) : w.cell? (ad.add k) = some (.int .u8 ((l.getD k 0).toNat : Int)) := by
  obtain ⟨A', c', e, hc, hr⟩ := h
  injection e with e1 e2 e3
  subst e1 e2 e3
  obtain ⟨ad2, x, e, _, hx, hcell⟩ := hr.byte rfl k hk
  injection e with e
  subst e
  rw [List.getD_eq_getElem?_getD, hx]
  exact hcell
set_option maxRecDepth 100000 in
theorem get_len (w : World) (A : Option Addr) (n c : Nat) (h : n ≠ 256) : Calls Tryd.prog 20 #[.slice A n c] w fun e w' => e = .returned (.tuple #[.int .i64 0, .slice none 0 0, .int .i64 1]) ∧ w = w' := by
  go_enter Tryd.func20, Tryd.ntmps20
  go_wp2
  refine wp_scope_label 0 (fun _ _ => False) (fun _ _ => 0) rfl (fun _ _ h => h.elim) ?_
  intro _
  go_wp2
  all_goals (try (exfalso; omega))
  simp only [Exit.jump]
  exact bodyPost_ret (v := .tuple #[.int .i64 0, .slice none 0 0, .int .i64 1]) (by simp [results, Tryd.results20, go_sem]) rfl ⟨rfl, rfl⟩
set_option maxRecDepth 100000 in
theorem get_zero (w : World) (v : Value) (hr : RdB w w.heap.size v (zerosS 256)) : Calls Tryd.prog 20 #[v] w fun e w' => e = .returned (.tuple #[.int .i64 0, .slice none 0 0, .int .i64 5]) ∧ Gr w w' := by
  have cE := empty_s w v _ hr
  obtain ⟨A, c, rfl, hc, _⟩ := id hr
  rw [zerosS_len] at cE ⊢
  rw [show decide (zerosS 256 = zerosS 256) = true from decide_eq_true rfl] at cE
  go_enter Tryd.func20, Tryd.ntmps20
  go_wp2
  refine wp_scope_label 0 (fun _ _ => False) (fun _ _ => 0) rfl (fun _ _ h => h.elim) ?_
  intro _
  go_wp2_with (go_at_call 21; (with_reducible refine cE.mono ?_); rintro e w1 ⟨rfl, hg1⟩)
  simp only [Exit.jump]
  exact bodyPost_ret (v := .tuple #[.int .i64 0, .slice none 0 0, .int .i64 5]) (by simp [results, Tryd.results20, go_sem]) rfl ⟨rfl, hg1⟩
set_option maxRecDepth 100000 in
set_option maxHeartbeats 4000000 in
theorem get_s (w : World) (v : Value) (l : List UInt8) (hr : RdB w w.heap.size v l) (hl : l.length = 256) (hz : l ≠ zerosS 256) : Calls Tryd.prog 20 #[v] w fun e w' => (soundS l → ∃ x, e = .returned (.tuple #[.int .i64 ((l.getD 0 0).toNat : Int), x, .int .i64 0]) ∧ OwnB w' w.heap.size x (bodyS l)) ∧ (¬ soundS l → e = .returned (.tuple #[.int .i64 0, .slice none 0 0, .int .i64 17])) ∧ Gr w w' := by
  have cE := empty_s w v _ hr
  obtain ⟨A, c, rfl, hc, hA⟩ := id hr
  obtain ⟨ad, _, rfl, had, _⟩ := hA.byte rfl 0 (by omega)
  clear hA
  rw [hl] at cE hr hc ⊢
  rw [show decide (l = zerosS 256) = false from decide_eq_false hz] at cE
  go_enter Tryd.func20, Tryd.ntmps20
  go_wp2
  refine wp_scope_label 0 (fun a' W => (∃ u0 u1 u2 u3 u4 u5 u6 u7 u8 u9 u10 u11 u12 u13 u14 u15 u16 u17 u18 u19 u20 u21 u22 u23 u24 u25 u26 u27 u28 u29 u30 u31 u32 u33 u34 u35 u36 u37 u38 u39 u40 u41 u42 u43 u44 u45 u46 u47 u48 u49 u50 u51 u52 : Value, a' = ⟨#[u0, u1, u2, u3, u4, u5, u6, u7, u8, u9, u10, u11, u12, u13, u14, u15, u16, u17, u18, u19, u20, u21, u22, u23, u24, u25, u26, u27, u28, u29, u30, u31, u32, u33, u34, u35, u36, u37, u38, u39, u40, u41, u42, u43, u44, u45, u46, u47, u48, u49, u50, u51, u52], []⟩) ∧ ¬ soundS l ∧ Gr w W) (fun _ _ => 0) rfl ?_ ?_
  · rintro a' W ⟨⟨u0, u1, u2, u3, u4, u5, u6, u7, u8, u9, u10, u11, u12, u13, u14, u15, u16, u17, u18, u19, u20, u21, u22, u23, u24, u25, u26, u27, u28, u29, u30, u31, u32, u33, u34, u35, u36, u37, u38, u39, u40, u41, u42, u43, u44, u45, u46, u47, u48, u49, u50, u51, u52, rfl⟩, hn, hg⟩
    go_wp2
    simp only [Exit.jump]
    exact bodyPost_ret (v := .tuple #[.int .i64 0, .slice none 0 0, .int .i64 17]) (by simp [results, Tryd.results20, go_sem]) rfl ⟨fun h => absurd h hn, fun _ => rfl, hg⟩
  · intro _
    go_wp2_with (go_at_call 21; (with_reducible refine cE.mono ?_); rintro e w1 ⟨rfl, hg1⟩)
    have hr1 := (hr.gr (Nat.le_refl _) hg1)
    have r0 := rd_byte hr1 0 (by omega)
    have r1 := rd_byte hr1 1 (by omega)
    have r2 := rd_byte hr1 2 (by omega)
    rw [show ad.add 0 = ad from rfl] at r0
    rw [show ad.add 1 = ⟨ad.block, ad.off + 1, none⟩ from rfl] at r1
    rw [show ad.add 2 = ⟨ad.block, ad.off + 2, none⟩ from rfl] at r2
    have hor := or_bytes (l.getD 1 0).toNat (l.getD 2 0).toNat (l.getD 1 0).toNat_lt (l.getD 2 0).toNat_lt
    have hlen : ((l.getD 1 0).toNat : Int) * 256 + ((l.getD 2 0).toNat : Int) = ((lenS l : Nat) : Int) := by unfold lenS; omega
    rw [hlen] at hor
    clear hlen
    have hln : lenS l < 65536 := by
      have h1 := (l.getD 1 0).toNat_lt
      have h2 := (l.getD 2 0).toNat_lt
      unfold lenS
      omega
    have hs1 := (l.getD 1 0).toNat_lt
    have hs2 := (l.getD 2 0).toNat_lt
    generalize hs0 : l.getD 0 0 = s0 at r0 ⊢
    generalize l.getD 1 0 = s1 at r1 hor hs1
    generalize l.getD 2 0 = s2 at r2 hor hs2
    by_cases h249 : 249 < lenS l
    · have hns : ¬ soundS l := fun h => by have := h.1; omega
      have d1 : decide ((249 : Int) < ((lenS l : Nat) : Int)) = true := decide_eq_true (by omega)
      generalize lenS l = n at *
      go_quiet (fail)
      go_wp2
      all_goals (try (exfalso; omega))
      go_step3
      exact ⟨rfl, ⟨_, _, _, _, _, _, _, _, _, _, _, _, _, _, _, _, _, _, _, _, _, _, _, _, _, _, _, _, _, _, _, _, _, _, _, _, _, _, _, _, _, _, _, _, _, _, _, _, _, _, _, _, _, rfl⟩, hns, Gr.trans hg1 (Gr.drewN _ _)⟩
    · have d1 : decide ((249 : Int) < ((lenS l : Nat) : Int)) = false := decide_eq_false (by omega)
      by_cases h00 : s0 = 0
      · have hns : ¬ soundS l := fun h => h.2.1 (by rw [hs0]; exact h00)
        have d2 : ((s0.toNat : Int) == 0) = true := by rw [h00]; rfl
        generalize lenS l = n at *
        go_quiet (fail)
        go_wp2
        all_goals (try (exfalso; omega))
        go_step3
        exact ⟨rfl, ⟨_, _, _, _, _, _, _, _, _, _, _, _, _, _, _, _, _, _, _, _, _, _, _, _, _, _, _, _, _, _, _, _, _, _, _, _, _, _, _, _, _, _, _, _, _, _, _, _, _, _, _, _, _, rfl⟩, hns, Gr.trans hg1 (Gr.drewN _ _)⟩
      · have h000 : s0.toNat ≠ 0 := fun h => h00 (UInt8.toNat_inj.1 h)
        have d2 : ((s0.toNat : Int) == 0) = false := by rw [beq_eq_false_iff_ne]; omega
        obtain ⟨n, hn⟩ : ∃ n, lenS l = n := ⟨_, rfl⟩
        rw [hn] at hor d1 hln h249
        go_quiet (fail)
        go_wp2
        have hgd : Gr w (w1.drewN nq) := Gr.trans hg1 (Gr.drewN _ _)
        have hrd : RdB (w1.drewN nq) w.heap.size (.slice (some ad) 256 c) l := hr1.gr hg1.size (Gr.drewN _ _)
        clear r0 r1 r2 hor hr1
        generalize w1.drewN nq = W1 at *
        have ht0 : (l.take 252).length = 252 := by rw [List.length_take, hl]; rfl
        have ht1 : (l.drop 252).length = 4 := by rw [List.length_drop, hl]
        have hta : RdB W1 w.heap.size (.slice (some ad) 252 c) (l.take 252) := rd_take (by rw [hl]; exact hrd) 252 (by omega)
        have htb : RdB W1 w.heap.size (.slice (some ⟨ad.block, ad.off + 252, none⟩) 4 (c - 252)) (l.drop 252) := by
          have := rd_dropS (l := l) (by rw [hl]; exact hrd) 252 (by omega)
          rw [hl, if_neg (by omega)] at this
          exact this
        have hc252 : ¬ c = 252 := by omega
        refine wp_region_facts [.is (.slice (some ad) 256 c), .is (.slice (some ad) 252 c), .is (.slice (some ad) 256 c), .is (.slice (some ⟨ad.block, ad.off + 252, none⟩) 4 (c - 252)), .is (.bool (decide (markB (l.take 252) = l.drop 252))), .is (.bool (!decide (markB (l.take 252) = l.drop 252)))]
          (fun W => Gr W1 W) noS noSI W1.heap.size (by kernel_rfl) rfl (by kernel_rfl) (by kernel_rfl) (Nat.le_refl _) (Gr.drew _) (fun vals => by simp [fillA, dstsOf, go_sem]; rfl) ?_ ?_
        · intro q hq6
          replace hq6 : q < 6 := hq6
          have hI : ∀ W W', Gr W1 W → Gr W W' → Gr W1 W' := fun W W' hp hg => Gr.trans hp hg
          rcases (by omega : q = 0 ∨ q = 1 ∨ q = 2 ∨ q = 3 ∨ q = 4 ∨ q = 5) with rfl | rfl | rfl | rfl | rfl | rfl
          · refine step_g 0 [] _ _ rfl rfl hI (by kernel_rfl) fun vals W hb_ hB_ hIw hd => ?_
            go_wp2
            exact ⟨rfl, _, rfl, Gr.refl _, rfl⟩
          · refine step_g 1 [0] _ _ rfl rfl hI (by kernel_rfl) fun vals W hb_ hB_ hIw hd => ?_
            have e0 : vals 0 = _ := hd 0 (by simp) _ rfl
            rw [e0]
            go_wp2
            exact ⟨rfl, _, rfl, Gr.refl _, rfl⟩
          · refine step_g 2 [] _ _ rfl rfl hI (by kernel_rfl) fun vals W hb_ hB_ hIw hd => ?_
            go_wp2
            exact ⟨rfl, _, rfl, Gr.refl _, rfl⟩
          · refine step_g 3 [2] _ _ rfl rfl hI (by kernel_rfl) fun vals W hb_ hB_ hIw hd => ?_
            have e2 : vals 2 = _ := hd 2 (by simp) _ rfl
            rw [e2]
            go_wp2
            exact ⟨rfl, _, rfl, Gr.refl _, rfl⟩
          · refine step_g 4 [1, 3] _ _ rfl rfl hI (by kernel_rfl) fun vals W hb_ hB_ hIw hd => ?_
            have e1 : vals 1 = _ := hd 1 (by simp) _ rfl
            have e3 : vals 3 = _ := hd 3 (by simp) _ rfl
            rw [e1, e3]
            have hgW := hIw (by kernel_rfl)
            have cC := check_m W _ _ _ _ ((hta.gr hgd.size hgW).more (Nat.le_trans hgd.size hgW.size)) ((htb.gr hgd.size hgW).more (Nat.le_trans hgd.size hgW.size)) (by omega)
            go_wp2_with (go_at_call 33; (with_reducible refine cC.mono ?_); rintro e w2 ⟨rfl, hg2⟩)
            exact ⟨rfl, _, rfl, hg2, rfl⟩
          · refine step_g 5 [4] _ _ rfl rfl hI (by kernel_rfl) fun vals W hb_ hB_ hIw hd => ?_
            have e4 : vals 4 = _ := hd 4 (by simp) _ rfl
            rw [e4]
            go_wp2
            exact ⟨rfl, _, rfl, Gr.refl _, rfl⟩
        · intro vals W2 hb2 hfs
          have hg12 : Gr W1 W2 := hb2
          have e5 : vals 5 = _ := hfs 5 _ rfl (fun k hk => rfl)
          by_cases hmk : markB (l.take 252) = l.drop 252
          · rw [decide_eq_true hmk] at e5
            rw [e5]
            have hrd2 := hrd.gr hgd.size hg12
            have htc : RdB W2 w.heap.size (.slice (some (ad.add (3 + n))) (252 - (3 + n)) (c - (3 + n))) ((l.take 252).drop (3 + n)) := by
              have := rd_dropS (l := l.take 252) (c := c) (A := some ad) (by rw [ht0]; exact hta.gr hgd.size hg12) (3 + n) (by omega)
              rw [ht0, if_neg (by omega)] at this
              exact this
            have cT := trim_b W2 w.heap.size _ _ (Nat.le_trans hgd.size hg12.size) htc (by rw [List.length_drop, ht0]; omega)
            clear hta htb ht1 hb2 hfs
            by_cases hall : ∀ x ∈ (l.take 252).drop (3 + n), x = 0
            · have hso : soundS l := ⟨by omega, by rw [hs0]; exact h00, hmk, by rw [hn]; exact hall⟩
              have hbo : bodyS l = (l.drop 3).take n := by unfold bodyS; rw [hn]
              go_wp2_with (go_at_call 34; (with_reducible refine cT.mono ?_); rintro e W3 ⟨⟨A3, n3, c3, rfl, hn3⟩, hg23⟩
                           have hn0 : n3 = 0 := hn3.2 hall
                           have dn3 : decide ((0 : Int) < (n3 : Int)) = false := decide_eq_false (by omega)
                           have dm3 : decide (0 < n3) = false := decide_eq_false (by omega))
              all_goals (try (exfalso; omega))
              have hg3 := Gr.trans hgd (Gr.trans hg12 hg23)
              have hrd3 := hrd2.gr (Nat.le_trans hgd.size hg12.size) hg23
              have hcell3 : W3.cell? ad = some (.int .u8 (s0.toNat : Int)) := by
                have := rd_byte hrd3 0 (by omega)
                rw [hs0] at this
                exact this
              have hte : RdB W3 w.heap.size (.slice (some ⟨ad.block, ad.off + 3, none⟩) n (c - 3)) ((l.drop 3).take n) := by
                have h3 := rd_dropS (l := l) (by rw [hl]; exact hrd3) 3 (by omega)
                rw [hl, if_neg (by omega)] at h3
                have h4 := rd_take (l := l.drop 3) (A := some ⟨ad.block, ad.off + 3, none⟩) (c := c - 3) (by rw [List.length_drop, hl]; exact h3) n (by rw [List.length_drop, hl]; omega)
                exact h4
              have had3 : ad.block < W3.heap.size := Nat.lt_of_lt_of_le had hg3.size
              clear cT htc hrd hrd2 hall hn3 hg12 hg23 hs1 hs2 d1 d2
              let fO : Fact := ⟨fun u W => OwnB W w.heap.size u ((l.drop 3).take n), fun _ _ _ hp hg => hp.gr hg⟩
              refine wp_region_facts [.is (.slice (some ad) 256 c), .is (.pointer (some ad)), .is (.int .u8 (s0.toNat : Int)), .is (.int .i64 (s0.toNat : Int)), .is (.slice (some ad) 256 c), .is (.int .i64 n), .is (.int .i64 (3 + (n : Int))), .is (.slice (some ⟨ad.block, ad.off + 3, none⟩) n (c - 3)), fO, .is (.int .i64 (s0.toNat : Int)), fO, .is (.int .i64 0)]
                (fun W => Gr W3 W) noS noSI W3.heap.size (by kernel_rfl) rfl (by kernel_rfl) (by kernel_rfl) (Nat.le_refl _) (Gr.drew _) (fun vals => by simp [fillA, dstsOf, go_sem]; rfl) ?_ ?_
              · intro q hq12
                replace hq12 : q < 12 := hq12
                have hI : ∀ W W', Gr W3 W → Gr W W' → Gr W3 W' := fun W W' hp hg => Gr.trans hp hg
                rcases (by omega : q = 0 ∨ q = 1 ∨ q = 2 ∨ q = 3 ∨ q = 4 ∨ q = 5 ∨ q = 6 ∨ q = 7 ∨ q = 8 ∨ q = 9 ∨ q = 10 ∨ q = 11) with rfl | rfl | rfl | rfl | rfl | rfl | rfl | rfl | rfl | rfl | rfl | rfl
                · refine step_g 0 [] _ _ rfl rfl hI (by kernel_rfl) fun vals W hb_ hB_ hIw hd => ?_
                  go_wp2
                  exact ⟨rfl, _, rfl, Gr.refl _, rfl⟩
                · refine step_g 1 [0] _ _ rfl rfl hI (by kernel_rfl) fun vals W hb_ hB_ hIw hd => ?_
                  have e0 : vals 0 = _ := hd 0 (by simp) _ rfl
                  rw [e0]
                  go_wp2
                  exact ⟨rfl, _, rfl, Gr.refl _, rfl⟩
                · refine step_g 2 [1] _ _ rfl rfl hI (by kernel_rfl) fun vals W hb_ hB_ hIw hd => ?_
                  have e1 : vals 1 = _ := hd 1 (by simp) _ rfl
                  rw [e1]
                  have hq := ((hIw (by kernel_rfl)).cell (p := ad) had3).trans hcell3
                  go_wp2
                  exact ⟨rfl, _, rfl, Gr.refl _, rfl⟩
                · refine step_g 3 [2] _ _ rfl rfl hI (by kernel_rfl) fun vals W hb_ hB_ hIw hd => ?_
                  have e2 : vals 2 = _ := hd 2 (by simp) _ rfl
                  rw [e2]
                  have b0 := s0.toNat_lt
                  go_wp2
                  exact ⟨rfl, _, rfl, Gr.refl _, rfl⟩
                · refine step_g 4 [] _ _ rfl rfl hI (by kernel_rfl) fun vals W hb_ hB_ hIw hd => ?_
                  go_wp2
                  exact ⟨rfl, _, rfl, Gr.refl _, rfl⟩
                · refine step_g 5 [] _ _ rfl rfl hI (by kernel_rfl) fun vals W hb_ hB_ hIw hd => ?_
                  go_wp2
                  exact ⟨rfl, _, rfl, Gr.refl _, rfl⟩
                · refine step_g 6 [5] _ _ rfl rfl hI (by kernel_rfl) fun vals W hb_ hB_ hIw hd => ?_
                  have e5 : vals 5 = _ := hd 5 (by simp) _ rfl
                  rw [e5]
                  go_wp2
                  exact ⟨rfl, _, rfl, Gr.refl _, rfl⟩
                · refine step_g 7 [4, 6] _ _ rfl rfl hI (by kernel_rfl) fun vals W hb_ hB_ hIw hd => ?_
                  have e4 : vals 4 = _ := hd 4 (by simp) _ rfl
                  have e6 : vals 6 = _ := hd 6 (by simp) _ rfl
                  rw [e4, e6]
                  have hsl := fun W => run_sub W ad c n (by omega)
                  go_wp2
                  exact ⟨rfl, _, rfl, Gr.refl _, rfl⟩
                · refine step_g 8 [7] _ _ rfl rfl hI (by kernel_rfl) fun vals W hb_ hB_ hIw hd => ?_
                  have e7 : vals 7 = _ := hd 7 (by simp) _ rfl
                  rw [e7]
                  have hgW := hIw (by kernel_rfl)
                  have cC := clone_d W w.heap.size _ _ (Nat.le_trans hg3.size hgW.size) (hte.gr hg3.size hgW) (by rw [List.length_take]; omega)
                  go_wp2_with (go_at_call 24; (with_reducible refine cC.mono ?_); rintro e w2 ⟨u, rfl, ho, hg⟩)
                  exact ⟨rfl, _, rfl, hg, ho.lower (Nat.le_trans hg3.size hgW.size)⟩
                · refine step_g 9 [3] _ _ rfl rfl hI (by kernel_rfl) fun vals W hb_ hB_ hIw hd => ?_
                  have e3 : vals 3 = _ := hd 3 (by simp) _ rfl
                  rw [e3]
                  go_wp2
                  exact ⟨rfl, _, rfl, Gr.refl _, rfl⟩
                · refine step_g 10 [8] _ _ rfl rfl hI (by kernel_rfl) fun vals W hb_ hB_ hIw hd => ?_
                  have e8 : OwnB W w.heap.size (vals 8) ((l.drop 3).take n) := hd 8 (by simp) _ rfl
                  go_wp2
                  exact ⟨rfl, _, rfl, Gr.refl _, e8⟩
                · refine step_g 11 [] _ _ rfl rfl hI (by kernel_rfl) fun vals W hb_ hB_ hIw hd => ?_
                  go_wp2
                  exact ⟨rfl, _, rfl, Gr.refl _, rfl⟩
              · intro vals W4 hb4 hfs
                have hg34 : Gr W3 W4 := hb4
                have e9 : vals 9 = _ := hfs 9 _ rfl (fun k hk => rfl)
                have e10 : OwnB W4 w.heap.size (vals 10) ((l.drop 3).take n) := hfs 10 _ rfl (fun k hk => rfl)
                have e11 : vals 11 = _ := hfs 11 _ rfl (fun k hk => rfl)
                rw [e9, e11]
                go_wp2
                simp only [Exit.jump]
                exact bodyPost_ret (v := .tuple #[.int .i64 (s0.toNat : Int), vals 10, .int .i64 0]) (by simp [results, Tryd.results20, go_sem]) rfl ⟨fun _ => ⟨_, by rw [hs0], by rw [hbo]; exact e10⟩, fun h => absurd hso h, Gr.trans hg3 hg34⟩
            · have hns : ¬ soundS l := fun h => hall (by rw [← hn]; exact h.2.2.2)
              go_wp2_with (go_at_call 34; (with_reducible refine cT.mono ?_); rintro e W3 ⟨⟨A3, n3, c3, rfl, hn3⟩, hg23⟩
                           have hn0 : n3 ≠ 0 := fun h => hall (hn3.1 h))
              all_goals (try (exfalso; omega))
              go_step3
              exact ⟨rfl, ⟨_, _, _, _, _, _, _, _, _, _, _, _, _, _, _, _, _, _, _, _, _, _, _, _, _, _, _, _, _, _, _, _, _, _, _, _, _, _, _, _, _, _, _, _, _, _, _, _, _, _, _, _, _, rfl⟩, hns, Gr.trans hgd (Gr.trans hg12 hg23)⟩
          · have hns : ¬ soundS l := fun h => hmk h.2.2.1
            rw [decide_eq_false hmk] at e5
            rw [e5]
            go_wp2
            go_step3
            exact ⟨rfl, ⟨_, _, _, _, _, _, _, _, _, _, _, _, _, _, _, _, _, _, _, _, _, _, _, _, _, _, _, _, _, _, _, _, _, _, _, _, _, _, _, _, _, _, _, _, _, _, _, _, _, _, _, _, _, rfl⟩, hns, Gr.trans hgd hg12⟩
end Go.Proofs.YtlbldmpiaebeeaaDoor
