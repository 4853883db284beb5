/- Slots: Put of any number; Get of any sector; acts as they lie in memory; the law's huge. -/
import Derived.Test.YtlbldmpiaebeeaaDoorSlC
import Derived.Test.YtlbldmpiaebeeaaDoorDkX
namespace Go.Proofs.YtlbldmpiaebeeaaDoor
open Go Go.RowKit Go.Maps Go.MapKept Go.ChangeMaps

section
variable {w w' : World} {K K' : Nat → Prop} {g gs gm n m h f c : Nat} {d : Dk} {s : List (List UInt8)}
theorem put_any_dq (hD : DkAt w K g gs gm n m (DQ s)) (hs : SlAt w h g f c) (hh : ¬ DkS g gs gm h) (z : Int) (hc : c ≤ 16) (hf : f ≤ 1024) (hfc : f + c ≤ s.length) (hl : ∀ l ∈ s, l.length = 256) (v : Value) (b : List UInt8) (hv : RdB w w.heap.size v b) (hm : m ≤ 1000000) :
    Calls Tryd.prog 12 #[.pointer (some ⟨h, 0, none⟩), .int .i64 z, v] w fun e w' => ∃ q s' K' m', e = .returned (.int .i64 q) ∧ DkAt w' K' g gs gm n m' (DQ s') ∧ s'.length = s.length ∧ (∀ l ∈ s', l.length = 256) ∧ m' ≤ m + 1 ∧ But (DkS g gs gm) w w' := by
  by_cases hz : z < 0 ∨ (c : Int) ≤ z
  · exact (put_out hs z v hz).mono fun e w' ⟨h1, h2⟩ => ⟨_, s, K, m, h1, h2 ▸ hD, rfl, hl, Nat.le_succ _, h2 ▸ But.refl _ _⟩
  · obtain ⟨i, rfl⟩ : ∃ i : Nat, z = i := ⟨z.toNat, by omega⟩
    by_cases hb : b.length ≤ 249
    · exact (put_dq hD hs hh i _ rfl (by omega) hc hf (by omega) hl v b hv hb hm).mono fun e w' ⟨K', m', h1, h2, h3, h4⟩ => ⟨_, _, K', m', h1, h2, List.length_set, set_len hl _ (secS_len 4 b hb), h3, h4⟩
    · have hp := put_sl hD hs hh i (by omega) hc hf (by rw [at_len hl _ (by omega)]; decide) v b hv hm
      have e : (DQ s).slotPut (f + i) b = (3, DQ s) := by
        unfold Dk.slotPut
        rw [dq_there s _ (by omega), if_neg (by simp), if_pos (by omega)]
      rw [e] at hp
      exact hp.mono fun e w' ⟨K', m', h1, h2, h3, h4⟩ => ⟨_, _, K', m', h1, h2, rfl, hl, h3, h4⟩
set_option maxRecDepth 100000 in
set_option maxHeartbeats 2000000 in
theorem get_sl_kind (hD : DkAt w K g gs gm n m d) (hs : SlAt w h g f c) (i : Nat) (hi : i < c) (hc : c ≤ 16) (hf : f ≤ 1024) (hq : d.there ((f + i : Nat) : Int) = 0) (hl : (d.at_ (f + i)).length = 256) (he : getE (d.at_ (f + i)) = 0) (hk : (d.at_ (f + i)).getD 0 0 ≠ 4) :
    Calls Tryd.prog 6 #[.pointer (some ⟨h, 0, none⟩), .int .i64 (i : Int)] w fun e w' => e = .returned (.tuple #[.slice none 0 0, .int .i64 17]) ∧ Gr w w' := by
  have cA := at_s hD hs i hi hc hf (by omega)
  rw [hq] at cA
  have cG := fun W u (hu : RdB W W.heap.size u (d.at_ (f + i))) => get_ok W u _ hu hl he
  have hk4 : ((d.at_ (f + i)).getD 0 0).toNat ≠ 4 := fun h => hk (UInt8.toNat_inj.1 h)
  generalize ((d.at_ (f + i)).getD 0 0).toNat = k4 at *
  have dk4 : ((k4 : Int) != 4) = true := by rw [bne_iff_ne]; omega
  go_enter Tryd.func6, Tryd.ntmps6
  go_wp2
  refine wp_scope_label 0 (fun a' W => (∃ u0 u1 u2 u3 u4 u5 u6 u7 u8 u9 u11 u12 u13 u14 u15 u16 u17 u18 u19 u20 u21 u22 u23 u24 u25 u26 u27 u28 u29 u30 u31 u32 u33 u34 u35 : Value, a' = ⟨#[u0, u1, u2, u3, u4, u5, u6, u7, u8, u9, (.int .i64 17), u11, u12, u13, u14, u15, u16, u17, u18, u19, u20, u21, u22, u23, u24, u25, u26, u27, u28, u29, u30, u31, u32, u33, u34, u35], []⟩) ∧ Gr w W) (fun _ _ => 0) rfl ?_ ?_
  · rintro a' W ⟨⟨u0, u1, u2, u3, u4, u5, u6, u7, u8, u9, u11, u12, u13, u14, u15, u16, u17, u18, u19, u20, u21, u22, u23, u24, u25, u26, u27, u28, u29, u30, u31, u32, u33, u34, u35, rfl⟩, hg⟩
    go_wp2
    simp only [Exit.jump]
    exact bodyPost_ret (v := .tuple #[.slice none 0 0, .int .i64 17]) (by simp [results, Tryd.results6, go_sem]) rfl ⟨rfl, hg⟩
  · intro _
    go_wp2_with (first
      | (go_at_call 19; (with_reducible refine cA.mono ?_); rintro e w1 ⟨u, rfl, hu, hg1⟩
         have cG1 := cG w1 u (hu.1 (by first | rfl | trivial)).rdD)
      | (go_at_call 20; (with_reducible refine cG1.mono ?_); rintro e w2 ⟨⟨x, rfl, hx⟩, hg2⟩))
    all_goals (try (exfalso; omega))
    go_step3
    exact ⟨rfl, ⟨_, _, _, _, _, _, _, _, _, _, _, _, _, _, _, _, _, _, _, _, _, _, _, _, _, _, _, _, _, _, _, _, _, _, _, rfl⟩, Gr.trans hg1 hg2⟩
theorem get_any_dq (hD : DkAt w K g gs gm n m (DQ s)) (hs : SlAt w h g f c) (i : Nat) (z : Int) (hz : z = i) (hi : i < c) (hc : c ≤ 16) (hf : f ≤ 1024) (hfi : f + i < s.length) (hl : ∀ l ∈ s, l.length = 256) :
    Calls Tryd.prog 6 #[.pointer (some ⟨h, 0, none⟩), .int .i64 z] w fun e w' => (∃ (A : Option Addr) (k c : Nat) (q : Int), e = .returned (.tuple #[.slice A k c, .int .i64 q])) ∧ Gr w w' := by
  subst hz
  have h1 := dq_there s _ hfi
  have h2 := at_len hl _ hfi
  by_cases he : getE ((DQ s).at_ (f + i)) = 0
  · by_cases hk : ((DQ s).at_ (f + i)).getD 0 0 = 4
    · refine (get_sl_ok hD hs i hi hc hf h1 h2 he hk).mono fun e w' ⟨⟨x, h3, h4⟩, h5⟩ => ⟨?_, h5⟩
      obtain ⟨A, c, ex, _⟩ := h4.rdD
      exact ⟨A, _, c, 0, by rw [h3, ex]⟩
    · exact (get_sl_kind hD hs i hi hc hf h1 h2 he hk).mono fun e w' ⟨h3, h5⟩ => ⟨⟨_, _, _, _, h3⟩, h5⟩
  · exact (get_sl_bad hD hs i hi hc hf h1 h2 he).mono fun e w' ⟨h3, h5⟩ => ⟨⟨_, _, _, _, h3⟩, h5⟩
end
/-- An act of the law. -/
structure Sa where
  kind : Int
  at_ : Int
  b : List UInt8
/-- Acts in memory. -/
def RdSas (w : World) (K : Nat → Prop) (v : Value) (l : List Sa) : Prop := ∃ A cap vs, v = .slice A l.length cap ∧ (l.length ≤ cap ∧ cap ≤ maxLen) ∧ Rk w K 3 A l.length vs ∧
  ∀ (i : Nat) (a : Sa), l[i]? = some a → vs[i * 3]? = some (.int .i64 a.kind) ∧ vs[i * 3 + 1]? = some (.int .i64 a.at_) ∧ ∃ (A : Option Addr) (c : Nat), vs[i * 3 + 2]? = some (.slice A a.b.length c) ∧ RkB w K (.slice A a.b.length c) a.b
theorem sa_cells {w wr : World} {lA : Option Addr} {lvs : List Value} {l : List Sa} (hlr : Rk w (· < w.heap.size) 3 lA l.length lvs)
    (hla : ∀ (i : Nat) (a : Sa), l[i]? = some a → lvs[i * 3]? = some (.int .i64 a.kind) ∧ lvs[i * 3 + 1]? = some (.int .i64 a.at_) ∧ ∃ (A : Option Addr) (c : Nat), lvs[i * 3 + 2]? = some (.slice A a.b.length c) ∧ RkB w (· < w.heap.size) (.slice A a.b.length c) a.b) (hg : Below w.heap.size w wr) {k : Nat} {a : Sa} (ha : l[k]? = some a) :
    ∃ (ad : Addr) (A : Option Addr) (c : Nat), lA = some ad ∧ wr.cell? (ad.add (k * 3)) = some (.int .i64 a.kind) ∧ wr.cell? ⟨(ad.add (k * 3)).block, (ad.add (k * 3)).off + 1, none⟩ = some (.int .i64 a.at_) ∧ wr.cell? ⟨(ad.add (k * 3)).block, (ad.add (k * 3)).off + 2, none⟩ = some (.slice A a.b.length c) ∧ (ad.add (k * 3)).block < w.heap.size ∧ RdB wr w.heap.size (.slice A a.b.length c) a.b := by
  have hkl := (List.getElem?_eq_some_iff.1 ha).1
  obtain ⟨ad, e, hb, hc⟩ := hlr.2 (by omega)
  have hb : ad.block < w.heap.size := hb
  obtain ⟨e0, e1, A, c, e2, e3⟩ := hla k a ha
  have f := fun j u (h : lvs[j]? = some u) => (hg.cell (p := ad.add j) (by rw [block_of_add]; exact hb)).trans (hc j u h)
  have q : ∀ j u, j ≠ 0 → wr.cell? (ad.add (k * 3 + j)) = some u → wr.cell? ⟨(ad.add (k * 3)).block, (ad.add (k * 3)).off + j, none⟩ = some u := fun j u hj h => by
    rw [← add_of_add] at h
    rw [← h]
    congr 1
    generalize ad.add (k * 3) = p
    unfold Addr.add
    rw [if_neg hj]
  exact ⟨ad, A, c, e, f _ _ e0, q 1 _ (by decide) (f _ _ e1), q 2 _ (by decide) (f _ _ e2), by rw [block_of_add]; exact hb, (e3.keep fun p hp => hg.cell hp).rd fun b hb => hb⟩
/-- Acts that are few and small. -/
def fewS (l : List Sa) : Prop := l.length ≤ 40 ∧ ∀ (i : Nat) (a : Sa), l[i]? = some a → a.b.length ≤ 300
set_option maxRecDepth 100000 in
set_option maxHeartbeats 2000000 in
theorem huge_s (w : World) (v : Value) (l : List Sa) (hl : RdSas w (· < w.heap.size) v l) : Calls Tryd.prog 14 #[v] w fun e w' => (∃ b, e = .returned (.bool b) ∧ (b = false ↔ fewS l)) ∧ w = w' := by
  obtain ⟨lA, lc, lvs, rfl, ⟨hlc1, hlc2⟩, hlr, hla⟩ := hl
  unfold maxLen at hlc2
  have hcell := fun (k : Nat) (a : Sa) (ha : l[k]? = some a) => sa_cells hlr hla (Below.refl w.heap.size w) ha
  clear hlr hla
  go_enter Tryd.func14, Tryd.ntmps14
  go_wp2
  go_loopw [3] (fun v3 wr => (∃ k : Nat, v3 = .int .i64 k ∧ k ≤ l.length ∧ k ≤ 100 ∧ ∀ (i : Nat) (a : Sa), i < k → l[i]? = some a → a.b.length ≤ 300) ∧ w = wr) (fun v3 _ => 100 - (intOf v3).toNat)
  case atStart => exact ⟨⟨0, rfl, Nat.zero_le _, Nat.zero_le _, fun i a h => absurd h (Nat.not_lt_zero i)⟩, rfl⟩
  case round =>
    obtain ⟨⟨k, rfl, hk, hk1, hall⟩, rfl⟩ := hrel
    by_cases hp : k < l.length
    · by_cases hp1 : k < 100
      · obtain ⟨a, ha⟩ : ∃ a, l[k]? = some a := ⟨_, List.getElem?_eq_getElem hp⟩
        obtain ⟨ad, A, c, rfl, c0, c1, c2, _, hr⟩ := hcell k a ha
        obtain ⟨A', c', ex, hbc, _⟩ := hr
        by_cases h3 : 300 < a.b.length
        · have d3 : decide ((300 : Int) < (a.b.length : Int)) = true := decide_eq_true (by omega)
          clear ex hbc
          go_wp2
          all_goals (try (exfalso; omega))
          go_ret
          exact ⟨⟨_, rfl, ⟨fun h => (by cases h), fun h => by have := h.2 k a ha; omega⟩⟩, rfl⟩
        · have d3 : decide ((300 : Int) < (a.b.length : Int)) = false := decide_eq_false (by omega)
          have hall2 : ∀ i b, i < k + 1 → l[i]? = some b → b.b.length ≤ 300 := fun i b hi hb => by
            rcases Nat.eq_or_lt_of_le (Nat.le_of_lt_succ hi) with h1 | h1
            · subst h1; rw [ha] at hb; injection hb with hb; subst hb; omega
            · exact hall i b h1 hb
          clear ex hbc hall
          go_wp2
          all_goals (try (exfalso; omega))
          go_roundw
          case rel => exact ⟨⟨k + 1, by go_num, by omega, by omega, hall2⟩, trivial⟩
          case measure => simp [intOf]; omega
      · have dl : decide ((40 : Int) < (l.length : Int)) = true := decide_eq_true (by omega)
        clear hall
        go_wp2
        all_goals (try (exfalso; omega))
        go_ret
        exact ⟨⟨true, ret_bool (by first | rfl | simpa using by omega), ⟨fun h => (by cases h), fun h => by have := h.1; omega⟩⟩, rfl⟩
    · obtain rfl : k = l.length := by omega
      go_wp2
      all_goals (try (exfalso; omega))
      go_ret
      exact ⟨⟨_, rfl, ⟨fun h => ⟨by simp at h; omega, fun i a hi => hall i a (List.getElem?_eq_some_iff.1 hi).1 hi⟩, fun h => by have := h.1; simp; omega⟩⟩, rfl⟩
theorem huge_few (w : World) (v : Value) (l : List Sa) (hl : RdSas w (· < w.heap.size) v l) (hf : fewS l) : Calls Tryd.prog 14 #[v] w fun e w' => e = .returned (.bool false) ∧ w = w' :=
  (huge_s w v l hl).mono fun e w' ⟨⟨b, h1, h2⟩, h3⟩ => ⟨by rw [h1, h2.2 hf], h3⟩
theorem huge_many (w : World) (v : Value) (l : List Sa) (hl : RdSas w (· < w.heap.size) v l) (hf : ¬ fewS l) : Calls Tryd.prog 14 #[v] w fun e w' => e = .returned (.bool true) ∧ w = w' :=
  (huge_s w v l hl).mono fun e w' ⟨⟨b, h1, h2⟩, h3⟩ => ⟨by
    cases b
    · exact absurd (h2.1 rfl) hf
    · exact h1, h3⟩
theorem RdSas.gr {w w' : World} {v : Value} {l : List Sa} (h : RdSas w (· < w.heap.size) v l) (hg : Gr w w') : RdSas w' (· < w'.heap.size) v l := by
  obtain ⟨A, cap, vs, e, hc, hr, ha⟩ := h
  have hk : ∀ p : Addr, p.block < w.heap.size → w'.cell? p = w.cell? p := fun p hp => hg.cell hp
  have hs := hg.size
  refine ⟨A, cap, vs, e, hc, (hr.keep hk).mono fun b hb => Nat.lt_of_lt_of_le hb hs, fun i a hi => ?_⟩
  obtain ⟨h1, h2, A2, c2, h3, h4⟩ := ha i a hi
  exact ⟨h1, h2, A2, c2, h3, (h4.keep hk).mono fun b hb => Nat.lt_of_lt_of_le hb hs⟩
end Go.Proofs.YtlbldmpiaebeeaaDoor
