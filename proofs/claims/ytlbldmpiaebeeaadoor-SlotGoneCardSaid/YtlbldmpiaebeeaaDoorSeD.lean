/- bytes.Trim of zeros: is something left? -/
import Derived.Test.YtlbldmpiaebeeaaDoorSeC
namespace Go.Proofs.YtlbldmpiaebeeaaDoor
open Go Go.RowKit

theorem rd_take {w : World} {B c : Nat} {A : Option Addr} {l : List UInt8} (h : RdB w B (.slice A l.length c) l) (n : Nat) (hn : n ≤ l.length) : RdB w B (.slice A n c) (l.take n) := by
  obtain ⟨A', c', e, hc, hr⟩ := h
  injection e with e1 e2 e3
  subst e1 e3
  refine ⟨_, _, by rw [List.length_take, Nat.min_eq_left hn], by rw [List.length_take]; omega, by rw [bvs_lenS, Nat.mul_one], fun h0 => ?_⟩
  rw [List.length_take] at h0
  obtain ⟨ad, e, hb, hx⟩ := hr.2 (by omega)
  refine ⟨ad, e, hb, fun j u hu => hx j u ?_⟩
  rw [← hu]
  unfold bvs
  have hj := (List.getElem?_eq_some_iff.1 hu).1
  rw [bvs_lenS, List.length_take] at hj
  rw [List.map_take, List.getElem?_take_of_lt (by omega)]
theorem add_addS (a : Addr) (i j : Nat) : (a.add i).add j = a.add (i + j) := by
  unfold Addr.add
  by_cases h1 : i = 0
  · subst h1; simp
  · by_cases h2 : j = 0
    · subst h2; simp [h1]
    · rw [if_neg h1, if_neg h2, if_neg (by omega)]
      cases a.spot <;> simp [Nat.add_assoc]
theorem rd_dropS {w : World} {B c : Nat} {A : Option Addr} {l : List UInt8} (h : RdB w B (.slice A l.length c) l) (n : Nat) (hn : n ≤ l.length) : RdB w B (.slice (if c = n then A else A.map (·.add n)) (l.length - n) (c - n)) (l.drop n) := by
  obtain ⟨A', c', e, hc, hr⟩ := h
  injection e with e1 e2 e3
  subst e1 e3
  refine ⟨_, c - n, by rw [List.length_drop], by rw [List.length_drop]; omega, by rw [bvs_lenS, Nat.mul_one], fun h0 => ?_⟩
  rw [List.length_drop] at h0
  obtain ⟨ad, e, hb, hx⟩ := hr.2 (by omega)
  subst e
  rw [if_neg (by omega)]
  refine ⟨ad.add n, rfl, by rw [block_of_add]; exact hb, fun j u hu => ?_⟩
  rw [add_addS]
  refine hx _ u ?_
  rw [← hu]
  unfold bvs
  rw [List.map_drop, List.getElem?_drop]
/-- What is left of a slice behind its first k. -/
def cutV (A : Option Addr) (n c k : Nat) : Value := .slice (if c = k then A else A.map (·.add k)) (n - k) (c - k)
theorem run_cut1 (W : World) (A : Option Addr) (n c : Nat) (h : 1 ≤ n) : (Instr.slice 22 (.slice A n c) (some (.int .i64 1)) none none).run Tryd.prog W = .ok (cutV A n c 1) W := by
  have ht : Tryd.prog.underlying 22 = some (.slice (Tryd.prog.elem 22)) := by kernel_rfl
  rw [run_slice_l W 22 A n c ht .i64 1 (by omega) (by omega)]
  have hz : (sizeOf (Tryd.prog.elem 22)).run Tryd.prog W = .ok 1 W := by kernel_rfl
  rw [hz]
  rfl
set_option maxRecDepth 100000 in
theorem trimr_b (w : World) (B : Nat) (l : List UInt8) (A : Option Addr) (c : Nat) (hr : RdB w B (.slice A l.length c) l) (hl : l.length ≤ 1073741824) : Calls Tryd.prog 41 #[.slice A l.length c, .int .u8 0] w fun e w' => (∃ k, k ≤ l.length ∧ e = .returned (.slice A k c) ∧ (∀ j x, k ≤ j → l[j]? = some x → x = 0) ∧ (k ≠ 0 → ∃ x, l[k - 1]? = some x ∧ x ≠ 0)) ∧ w = w' := by
  obtain ⟨A', c', e, hc, hA⟩ := hr
  injection e with e1 e2 e3
  subst e1 e3
  go_enter Tryd.func41, Tryd.ntmps41
  go_wp2
  go_loopw [0] (fun v0 wr => (∃ k : Nat, v0 = .slice A k c ∧ k ≤ l.length ∧ ∀ j x, k ≤ j → l[j]? = some x → x = 0) ∧ w = wr) (fun v0 _ => match v0 with | .slice _ n _ => n | _ => 0)
  case atStart => exact ⟨⟨l.length, rfl, Nat.le_refl _, fun j x hj hx => by have := (List.getElem?_eq_some_iff.1 hx).1; omega⟩, rfl⟩
  case round =>
    obtain ⟨⟨k, rfl, hk, hz⟩, rfl⟩ := hrel
    by_cases hp : 0 < k
    · obtain ⟨ad, x, rfl, hbk, hx, hc1⟩ := hA.byte rfl (k - 1) (by omega)
      have ek : ((k : Int) - 1) = ((k - 1 : Nat) : Int) := by omega
      by_cases hx0 : x = 0
      · subst hx0
        have hzk : ∀ j x, k - 1 ≤ j → l[j]? = some x → x = 0 := fun j y hj hy => by
          rcases Nat.eq_or_lt_of_le hj with h1 | h1
          · subst h1; rw [hx] at hy; exact (Option.some.inj hy).symm
          · exact hz j y (by omega) hy
        clear hz hA
        go_wp2
        refine ⟨⟨⟨k - 1, rfl, by omega, hzk⟩, trivial⟩, ?_⟩
        show k - 1 < k
        omega
      · have hne : ¬ (x.toNat = 0) := fun e => hx0 (UInt8.toNat_inj.1 e)
        go_wp2
        go_ret
        exact ⟨⟨k, hk, rfl, hz, fun _ => ⟨x, hx, hx0⟩⟩, rfl⟩
    · obtain rfl : k = 0 := by omega
      go_wp2
      go_ret
      exact ⟨⟨0, Nat.zero_le _, rfl, hz, fun h => absurd rfl h⟩, rfl⟩
set_option maxRecDepth 100000 in
theorem triml_b (w : World) (B : Nat) (l : List UInt8) (v : Value) (hr : RdB w B v l) (hl : l.length ≤ 1073741824) : Calls Tryd.prog 40 #[v, .int .u8 0] w fun e w' => (∃ A n c, e = .returned (.slice A n c) ∧ (n = 0 ↔ ∀ x ∈ l, x = 0)) ∧ w = w' := by
  have hcu := run_cut1
  obtain ⟨A, c, e, _⟩ := id hr
  subst e
  go_enter Tryd.func40, Tryd.ntmps40
  go_wp2
  go_loopw [0] (fun v0 wr => (∃ k : Nat, k ≤ l.length ∧ RdB w B v0 (l.drop k) ∧ ∀ j x, j < k → l[j]? = some x → x = 0) ∧ w = wr) (fun v0 _ => match v0 with | .slice _ n _ => n | _ => 0)
  case atStart => exact ⟨⟨0, Nat.zero_le _, by simpa using hr, fun j x hj => absurd hj (Nat.not_lt_zero j)⟩, rfl⟩
  case round =>
    obtain ⟨⟨k, hk, hR, hz⟩, rfl⟩ := hrel
    obtain ⟨A2, c2, rfl, hc2, hA2⟩ := id hR
    have hdl : (l.drop k).length = l.length - k := List.length_drop
    by_cases hp : k < l.length
    · obtain ⟨ad, x, rfl, hbk, hx, hc1⟩ := hA2.byte rfl 0 (by omega)
      rw [show ad.add 0 = ad from rfl] at hc1
      have hx' : l[k]? = some x := by rw [List.getElem?_drop, Nat.add_zero] at hx; exact hx
      have hcut := rd_dropS hR 1 (by omega)
      rw [List.drop_drop] at hcut
      have hcu1 := fun W => hcu W (some ad) (l.drop k).length c2 (by omega)
      rw [hdl] at hcut hcu1 hc2 ⊢
      clear hA2 hR hcu hdl
      by_cases hx0 : x = 0
      · subst hx0
        have hzk : ∀ j x, j < k + 1 → l[j]? = some x → x = 0 := fun j y hj hy => by
          rcases Nat.eq_or_lt_of_le (Nat.le_of_lt_succ hj) with h1 | h1
          · subst h1; rw [hx'] at hy; exact (Option.some.inj hy).symm
          · exact hz j y h1 hy
        clear hz
        go_wp2
        refine ⟨⟨⟨k + 1, by omega, hcut, hzk⟩, trivial⟩, ?_⟩
        show l.length - k - 1 < l.length - k
        omega
      · have hne : ¬ (x.toNat = 0) := fun e => hx0 (UInt8.toNat_inj.1 e)
        go_wp2
        all_goals (try (exfalso; omega))
        go_ret
        exact ⟨⟨_, _, _, rfl, ⟨fun h => by omega, fun h => absurd (h x (List.mem_of_getElem? hx')) hx0⟩⟩, rfl⟩
    · obtain rfl : k = l.length := by omega
      have hall : ∀ x ∈ l, x = 0 := fun x hx => by
        obtain ⟨j, hj⟩ := List.getElem?_of_mem hx
        exact hz j x (List.getElem?_eq_some_iff.1 hj).1 hj
      rw [hdl, Nat.sub_self] at hc2 ⊢
      clear hA2 hR hcu hdl hz
      go_wp2
      go_ret
      exact ⟨⟨_, _, _, rfl, ⟨fun _ => hall, fun _ => rfl⟩⟩, rfl⟩
set_option maxRecDepth 100000 in
theorem trim_b (w : World) (B : Nat) (l : List UInt8) (v : Value) (hB : B ≤ w.heap.size) (hr : RdB w B v l) (hl : l.length ≤ 1073741824) : Calls Tryd.prog 34 #[v, .string ⟨#[0]⟩] w fun e w' => (∃ A n c, e = .returned (.slice A n c) ∧ (n = 0 ↔ ∀ x ∈ l, x = 0)) ∧ Gr w w' := by
  obtain ⟨A, c, rfl, hc, _⟩ := id hr
  by_cases h0 : l.length = 0
  · rw [h0]
    go_enter Tryd.func34, Tryd.ntmps34
    go_wp2
    go_ret
    have : l = [] := List.eq_nil_of_length_eq_zero h0
    subst this
    exact ⟨⟨_, _, _, rfl, ⟨fun _ x hx => (nomatch hx), fun _ => rfl⟩⟩, Gr.refl _⟩
  · go_enter Tryd.func34, Tryd.ntmps34
    go_wp2
    have hb1 : ((l.length : Int) == 0) = false := by rw [beq_eq_false_iff_ne]; omega
    have hb2 : ((⟨#[0]⟩ : ByteArray)[0]'(by decide)).toNat = 0 := rfl
    simp only [hb1, hb2, Int.natCast_zero, Int.reduceLT, decide_true]
    let fK : Fact := ⟨fun u _ => ∃ k, k ≤ l.length ∧ u = .slice A k c ∧ (∀ j x, k ≤ j → l[j]? = some x → x = 0), fun _ _ _ h _ => h⟩
    let fN : Fact := ⟨fun u _ => ∃ A n c, u = .slice A n c ∧ (n = 0 ↔ ∀ x ∈ l, x = 0), fun _ _ _ h _ => h⟩
    refine wp_region_facts [.is (.slice A l.length c), .is (.string ⟨#[0]⟩), .is (.int .u8 0), fK, .is (.string ⟨#[0]⟩), .is (.int .u8 0), fN, fN]
      (fun W => Gr w W) noS noSI w.heap.size (by kernel_rfl) rfl (by kernel_rfl) (by kernel_rfl) (Nat.le_refl _) (Gr.drew _) (fun vals => by simp [fillA, dstsOf, go_sem]; rfl) ?_ ?_
    · intro q hq8
      replace hq8 : q < 8 := hq8
      have hI : ∀ W W', Gr w W → Gr W W' → Gr w W' := fun W W' hp hg => Gr.trans hp hg
      rcases (by omega : q = 0 ∨ q = 1 ∨ q = 2 ∨ q = 3 ∨ q = 4 ∨ q = 5 ∨ q = 6 ∨ q = 7) with rfl | rfl | rfl | rfl | rfl | rfl | rfl | rfl
      · refine step_g 0 [] _ _ rfl rfl hI (by kernel_rfl) fun vals W hb_ hB_ hIw hd => ?_
        go_wp2
        exact ⟨rfl, _, rfl, Gr.refl _, rfl⟩
      · refine step_g 1 [] _ _ rfl rfl hI (by kernel_rfl) fun vals W hb_ hB_ hIw hd => ?_
        go_wp2
        exact ⟨rfl, _, rfl, Gr.refl _, rfl⟩
      · refine step_g 2 [1] _ _ rfl rfl hI (by kernel_rfl) fun vals W hb_ hB_ hIw hd => ?_
        have e1 : vals 1 = _ := hd 1 (by simp) _ rfl
        rw [e1]
        go_wp2
        exact ⟨rfl, _, rfl, Gr.refl _, rfl⟩
      · refine step_g 3 [0, 2] _ _ rfl rfl hI (by kernel_rfl) fun vals W hb_ hB_ hIw hd => ?_
        have e0 : vals 0 = _ := hd 0 (by simp) _ rfl
        have e2 : vals 2 = _ := hd 2 (by simp) _ rfl
        rw [e0, e2]
        have cR := trimr_b W B l A c (hr.gr hB (hIw (by kernel_rfl))) hl
        go_wp2_with (go_at_call 41; (with_reducible refine cR.mono ?_); rintro e w2 ⟨⟨k, hk, rfl, hz, _⟩, rfl⟩)
        exact ⟨rfl, _, rfl, Gr.refl _, k, hk, rfl, hz⟩
      · refine step_g 4 [] _ _ rfl rfl hI (by kernel_rfl) fun vals W hb_ hB_ hIw hd => ?_
        go_wp2
        exact ⟨rfl, _, rfl, Gr.refl _, rfl⟩
      · refine step_g 5 [4] _ _ rfl rfl hI (by kernel_rfl) fun vals W hb_ hB_ hIw hd => ?_
        have e4 : vals 4 = _ := hd 4 (by simp) _ rfl
        rw [e4]
        go_wp2
        exact ⟨rfl, _, rfl, Gr.refl _, rfl⟩
      · refine step_g 6 [3, 5] _ _ rfl rfl hI (by kernel_rfl) fun vals W hb_ hB_ hIw hd => ?_
        obtain ⟨k, hk, e3, hz⟩ := (show ∃ k, k ≤ l.length ∧ vals 3 = .slice A k c ∧ (∀ j x, k ≤ j → l[j]? = some x → x = 0) from hd 3 (by simp) _ rfl)
        have e5 : vals 5 = _ := hd 5 (by simp) _ rfl
        rw [e3, e5]
        have cL := triml_b W B (l.take k) _ (rd_take (hr.gr hB (hIw (by kernel_rfl))) k hk) (by rw [List.length_take]; omega)
        go_wp2_with (go_at_call 40; (with_reducible refine cL.mono ?_); rintro e w2 ⟨⟨A2, n2, c2, rfl, hn⟩, rfl⟩)
        refine ⟨rfl, _, rfl, Gr.refl _, A2, n2, c2, rfl, hn.trans ⟨fun h x hx => ?_, fun h x hx => h x (List.mem_of_mem_take hx)⟩⟩
        obtain ⟨j, hj⟩ := List.getElem?_of_mem hx
        rcases Nat.lt_or_ge j k with hjk | hjk
        · exact h x (List.mem_of_getElem? (by rw [List.getElem?_take_of_lt hjk]; exact hj))
        · exact hz j x hjk hj
      · refine step_g 7 [6] _ _ rfl rfl hI (by kernel_rfl) fun vals W hb_ hB_ hIw hd => ?_
        obtain ⟨A2, n2, c2, e6, hn⟩ := (show ∃ A n c, vals 6 = .slice A n c ∧ (n = 0 ↔ ∀ x ∈ l, x = 0) from hd 6 (by simp) _ rfl)
        rw [e6]
        go_wp2
        exact ⟨rfl, _, rfl, Gr.refl _, A2, n2, c2, rfl, hn⟩
    · intro vals W7 hb7 hfs
      obtain ⟨A2, n2, c2, e7, hn⟩ := (show ∃ A n c, vals 7 = .slice A n c ∧ (n = 0 ↔ ∀ x ∈ l, x = 0) from hfs 7 _ rfl (fun k hk => rfl))
      rw [e7]
      go_wp2
      go_ret
      exact ⟨⟨A2, n2, c2, rfl, hn⟩, hb7⟩
end Go.Proofs.YtlbldmpiaebeeaaDoor
