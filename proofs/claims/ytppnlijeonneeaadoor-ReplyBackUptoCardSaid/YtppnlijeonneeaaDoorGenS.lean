/- Are scopes, commands, scripts the same? -/
import Derived.Test.YtppnlijeonneeaaDoorGenP
import Derived.Test.YtppnlijeonneeaaDoorEvPut
import Derived.DataShut
namespace Go.Proofs.YtppnlijeonneeaaDoor
open Go Go.RowKit Go.Sort

theorem add_field_ (ad : Addr) (m j : Nat) (hj : 0 < j) : ad.add (m + j) = ⟨(ad.add m).block, (ad.add m).off + j, none⟩ := by
  rw [← add_of_add]
  generalize ad.add m = P
  unfold Addr.add
  rw [if_neg (by omega)]
theorem kid_cells {w : World} {K : Nat → Prop} {A : Option Addr} {n : Nat} {vs : List Value} {ks : List Sc} (hr : Rk w K 5 A n vs) (hl : RdScL w K ks vs) (hn : n = ks.length) (k : Nat) (x : Sc) (hx : ks[k]? = some x) :
    ∃ ad P v0 v1 v2 v3 v4, A = some ad ∧ ad.add (k * 5) = P ∧ K P.block ∧ w.cell? P = some v0 ∧ w.cell? ⟨P.block, P.off + 1, none⟩ = some v1 ∧ w.cell? ⟨P.block, P.off + 2, none⟩ = some v2 ∧ w.cell? ⟨P.block, P.off + 3, none⟩ = some v3 ∧ w.cell? ⟨P.block, P.off + 4, none⟩ = some v4 ∧
      RdSc w K x (.agg #[v0, v1, v2, v3, v4]) := by
  have hk : k < ks.length := (List.getElem?_eq_some_iff.1 hx).1
  obtain ⟨ad, ea, hb, hc⟩ := hr.2 (by omega)
  obtain ⟨v0, v1, v2, v3, v4, h0, h1, h2, h3, h4, hs⟩ := RdScL.at_ ks vs k x hl hx
  refine ⟨ad, ad.add (k * 5), v0, v1, v2, v3, v4, ea, rfl, by rw [block_of_add]; exact hb, hc _ _ h0, ?_, ?_, ?_, ?_, hs⟩
  · rw [← add_field_ ad (k * 5) 1 (by omega)]; exact hc _ _ h1
  · rw [← add_field_ ad (k * 5) 2 (by omega)]; exact hc _ _ h2
  · rw [← add_field_ ad (k * 5) 3 (by omega)]; exact hc _ _ h3
  · rw [← add_field_ ad (k * 5) 4 (by omega)]; exact hc _ _ h4
theorem five_cells {W : World} {g : Nat} {T : TypeId} {x0 x1 x2 x3 x4 : Value} (h : Blk W g T #[x0, x1, x2, x3, x4]) : W.cell? ⟨g, 0, none⟩ = some x0 ∧ W.cell? ⟨g, 1, none⟩ = some x1 ∧ W.cell? ⟨g, 2, none⟩ = some x2 ∧ W.cell? ⟨g, 3, none⟩ = some x3 ∧ W.cell? ⟨g, 4, none⟩ = some x4 :=
  ⟨h.cell 0, h.cell 1, h.cell 2, h.cell 3, h.cell 4⟩
/-- What is below the heap's end stays. -/
theorem RdSc.gr {w w' : World} {x : Sc} {v : Value} (h : RdSc w (· < w.heap.size) x v) (hg : Gr w w') : RdSc w' (· < w'.heap.size) x v :=
  RdSc.mono (fun _ hb => Nat.lt_of_lt_of_le hb hg.size) x v (RdSc.keep (fun _ hp => hg.cell hp) x v h)
theorem RdScL.gr {w w' : World} {xs : List Sc} {vs : List Value} (h : RdScL w (· < w.heap.size) xs vs) (hg : Gr w w') : RdScL w' (· < w'.heap.size) xs vs :=
  RdScL.mono (fun _ hb => Nat.lt_of_lt_of_le hb hg.size) xs vs (RdScL.keep (fun _ hp => hg.cell hp) xs vs h)
theorem Rk.gr {w w' : World} {size n : Nat} {A : Option Addr} {xs : List Value} (h : Rk w (· < w.heap.size) size A n xs) (hg : Gr w w') : Rk w' (· < w'.heap.size) size A n xs :=
  (h.keep fun _ hp => hg.cell hp).mono fun _ hb => Nat.lt_of_lt_of_le hb hg.size
/-- The first k kids are the same. -/
def KidsTo (xs ys : List Sc) (k : Nat) : Prop := ∀ (j : Nat) (x y : Sc), j < k → xs[j]? = some x → ys[j]? = some y → scEq x y = true
theorem KidsTo.all {xs ys : List Sc} (h : KidsTo xs ys xs.length) (hl : xs.length = ys.length) : scEqL xs ys = true :=
  (scEqL_take xs ys hl).2 fun k x y hx hy => h k x y (List.getElem?_eq_some_iff.1 hx).1 hx hy
theorem KidsTo.no {xs ys : List Sc} {k : Nat} {x y : Sc} (hl : xs.length = ys.length) (hx : xs[k]? = some x) (hy : ys[k]? = some y) (h : scEq x y = false) : scEqL xs ys = false := by
  rw [Bool.eq_false_iff]
  intro ht
  rw [(scEqL_take xs ys hl).1 ht k x y hx hy] at h
  cases h
theorem KidsTo.succ {xs ys : List Sc} {k : Nat} {x y : Sc} (h : KidsTo xs ys k) (hx : xs[k]? = some x) (hy : ys[k]? = some y) (he : scEq x y = true) : KidsTo xs ys (k + 1) := by
  intro j a b hj ha hb
  rcases Nat.lt_or_ge j k with hlt | hge
  · exact h j a b hlt ha hb
  · obtain rfl : j = k := by omega
    obtain rfl := Option.some.inj (hx.symm.trans ha)
    obtain rfl := Option.some.inj (hy.symm.trans hb)
    exact he

theorem scEq_no {o o' fr fr' to_ to_' : Int} {nm nm' : ByteArray} {ks ks' : List Sc} (h : o ≠ o' ∨ nm ≠ nm' ∨ fr ≠ fr' ∨ to_ ≠ to_' ∨ scEqL ks ks' = false) : scEq (.mk o nm fr to_ ks) (.mk o' nm' fr' to_' ks') = false := by
  rw [scEq]
  rcases h with h | h | h | h | h <;> simp [h]
theorem scEqL_nolen {ks ks' : List Sc} (h : ks.length ≠ ks'.length) : scEqL ks ks' = false := by
  rw [Bool.eq_false_iff]
  intro ht
  exact h (scEqL_len ks ks' ht)
theorem str_ne {a b : ByteArray} (h : a ≠ b) : decide (a = b) = false ∧ (a.toList == b.toList) = false :=
  ⟨decide_eq_false h, by rw [beq_eq_false_iff_ne, ByteArray.toList_eq, ByteArray.toList_eq]; exact fun e => h (by cases a; cases b; simp_all [Array.toList_inj])⟩
set_option maxRecDepth 100000 in
set_option maxHeartbeats 4000000 in
theorem ssame_n : ∀ (N : Nat) (x y : Sc) (v v' : Value) (w : World), SizeOf.sizeOf x ≤ N → RdSc w (· < w.heap.size) x v → RdSc w (· < w.heap.size) y v' →
    Calls Tryd.prog 23 #[v, v'] w fun e w' => e = .returned (.bool (scEq x y)) ∧ Gr w w'
  | 0, .mk o nm fr to_ ks, y, v, v', w, hN, _, _ => by
    have : 0 < SizeOf.sizeOf (Sc.mk o nm fr to_ ks) := by rw [Sc.mk.sizeOf_spec]; omega
    omega
  | N + 1, .mk o nm fr to_ ks, .mk o' nm' fr' to_' ks', v, v', w, hN, hx, hy => by
    have ih := ssame_n N
    obtain ⟨A, c, vs, rfl, hc, hr, hl⟩ := hx.form
    obtain ⟨A', c', vs', rfl, hc', hr', hl'⟩ := hy.form
    clear hx hy
    have hcm := hc.2
    have hcm' := hc'.2
    unfold maxLen at hcm hcm'
    have hlc := hc.1
    have hG2 : ∀ o1 o2, Gr w ((w.alloc o1).alloc o2) := fun o1 o2 => Gr.trans (Gr.alloc _ _) (Gr.alloc _ _)
    by_cases ho : o = o'
    · subst ho
      by_cases hnm : nm = nm'
      · subst hnm
        by_cases hfr : fr = fr'
        · subst hfr
          by_cases hto : to_ = to_'
          · subst hto
            by_cases hlen : ks.length = ks'.length
            · have e0 : scEq (.mk o nm fr to_ ks) (.mk o nm fr to_ ks') = scEqL ks ks' := by rw [scEq]; simp
              rw [e0]
              clear e0
              have h1 : (((ks.length : Nat) : Int) == ((ks'.length : Nat) : Int)) = true := by simp [hlen]
              have h2 : decide (ks.length = ks'.length) = true := decide_eq_true hlen
              have h3 : (((ks.length : Nat) : Int) != ((ks'.length : Nat) : Int)) = false := by simp [hlen]
              have HLE := Lib.hid hlen
              clear hlen
              have hsz : ∀ (k : Nat) (x : Sc), ks[k]? = some x → SizeOf.sizeOf x ≤ N := by
                intro k x hx
                have h1 := List.sizeOf_lt_of_mem (List.mem_of_getElem? hx)
                have h2 : SizeOf.sizeOf (Sc.mk o nm fr to_ ks) = 1 + SizeOf.sizeOf o + SizeOf.sizeOf nm + SizeOf.sizeOf fr + SizeOf.sizeOf to_ + SizeOf.sizeOf ks := Sc.mk.sizeOf_spec o nm fr to_ ks
                omega
              go_enter Tryd.func23, Tryd.ntmps23
              go_wp2
              go_loopw [5] (fun v5 wr => ∃ k : Nat, v5 = .int .i64 k ∧ k ≤ ks.length ∧ KidsTo ks ks' k ∧ Gr ((w.alloc (.cells #[.int .i64 o, .string nm, .int .i64 fr, .int .i64 to_, .slice A ks.length c] 39)).alloc (.cells #[.int .i64 o, .string nm, .int .i64 fr, .int .i64 to_, .slice A' ks'.length c'] 39)) wr) (fun v5 _ => ks.length - (intOf v5).toNat)
              case atStart => exact ⟨0, rfl, Nat.zero_le _, fun j _ _ hj => absurd hj (by omega), Gr.refl _⟩
              case round =>
                obtain ⟨k, rfl, hk, hK, hg⟩ := hrel
                have hgw := Gr.trans (hG2 _ _) hg
                have hb0 := ((Blk.new w 39 _).alloc _).below hg ((Blk.new w 39 _).alloc _).lt
                have hb1 := (Blk.new (w.alloc _) 39 _).below hg (Blk.new (w.alloc _) 39 _).lt
                rw [show (w.alloc (.cells #[.int .i64 o, .string nm, .int .i64 fr, .int .i64 to_, .slice A ks.length c] 39)).heap.size = w.heap.size + 1 by simp] at hb1
                have b0 := hb0.cell 4
                have b1 := hb1.cell 4
                by_cases hlt : k < ks.length
                · obtain ⟨x, hxk⟩ : ∃ x, ks[k]? = some x := ⟨_, List.getElem?_eq_getElem hlt⟩
                  obtain ⟨y, hyk⟩ : ∃ y, ks'[k]? = some y := ⟨_, List.getElem?_eq_getElem (by rw [← HLE.out]; exact hlt)⟩
                  obtain ⟨ad, P, v0, v1, v2, v3, v4, rfl, eP, hP, c0, c1, c2, c3, c4, hsx⟩ := kid_cells (hr.gr hgw) (hl.gr hgw) rfl k x hxk
                  obtain ⟨ad', P', u0, u1, u2, u3, u4, rfl, eP', hP', d0, d1, d2, d3, d4, hsy⟩ := kid_cells (hr'.gr hgw) (hl'.gr hgw) rfl k y hyk
                  have hlt' : k < ks'.length := (List.getElem?_eq_some_iff.1 hyk).1
                  have k1 : ∀ d os, Calls Tryd.prog 23 #[.agg #[v0, v1, v2, v3, v4], .agg #[u0, u1, u2, u3, u4]] (grow (redrawn wr d) os) fun e w'' => e = .returned (.bool (scEq x y)) ∧ ∃ p : Regrown, w'' = grow (redrawn wr p.d) p.os := fun d os => Calls.regrown_of (ih x y _ _ _ (hsz k x hxk) (hsx.gr (below_regrown wr d os)) (hsy.gr (below_regrown wr d os)))
                  have qb0 := cell_regrown b0
                  have qb1 := cell_regrown b1
                  have qc0 := cell_regrown c0
                  have qc1 := cell_regrown c1
                  have qc2 := cell_regrown c2
                  have qc3 := cell_regrown c3
                  have qc4 := cell_regrown c4
                  have qd0 := cell_regrown d0
                  have qd1 := cell_regrown d1
                  have qd2 := cell_regrown d2
                  have qd3 := cell_regrown d3
                  have qd4 := cell_regrown d4
                  rcases hE : scEq x y with _ | _
                  · have HN := Lib.hid (KidsTo.no HLE.out hxk hyk hE)
                    simp only [hE] at k1
                    clear hE hxk hyk
                    go_wp2
                    refine wp_region_quiet_below (by kernel_rfl) (by kernel_rfl) ?_
                    repeat (quiet_step (with_reducible exact k1 _ _))
                    refine wpQuiet_nil ?_
                    intro _ hw'
                    obtain ⟨⟨dq, osq⟩, hw''⟩ := hw'
                    subst hw''
                    go_wp2
                    go_ret
                    exact ⟨ret_bool HN.out.symm, Gr.trans hgw (below_regrown wr dq osq)⟩
                  · have HN := Lib.hid (hK.succ hxk hyk hE)
                    simp only [hE] at k1
                    clear hE hxk hyk
                    go_wp2
                    refine wp_region_quiet_below (by kernel_rfl) (by kernel_rfl) ?_
                    repeat (quiet_step (with_reducible exact k1 _ _))
                    refine wpQuiet_nil ?_
                    intro _ hw'
                    obtain ⟨⟨dq, osq⟩, hw''⟩ := hw'
                    subst hw''
                    go_wp2
                    go_roundw
                    case rel => exact ⟨k + 1, by go_num, by omega, HN.out, Gr.trans hg (below_regrown wr dq osq)⟩
                    case measure => simp [intOf]; omega
                · obtain rfl : k = ks.length := by omega
                  go_wp2
                  go_ret
                  exact ⟨ret_bool (hK.all HLE.out).symm, hgw⟩
            · have h1 : (((ks.length : Nat) : Int) == ((ks'.length : Nat) : Int)) = false := by simp; omega
              have h2 : decide (ks.length = ks'.length) = false := decide_eq_false hlen
              have h3 : (((ks.length : Nat) : Int) != ((ks'.length : Nat) : Int)) = true := by simp; omega
              rw [scEq_no (.inr (.inr (.inr (.inr (scEqL_nolen hlen)))))]
              clear hlen
              go_enter Tryd.func23, Tryd.ntmps23
              go_wp2
              go_ret
              exact ⟨rfl, hG2 _ _⟩
          · rw [scEq_no (.inr (.inr (.inr (.inl hto))))]
            go_enter Tryd.func23, Tryd.ntmps23
            go_wp2
            go_ret
            exact ⟨rfl, hG2 _ _⟩
        · rw [scEq_no (.inr (.inr (.inl hfr)))]
          go_enter Tryd.func23, Tryd.ntmps23
          go_wp2
          go_ret
          exact ⟨rfl, hG2 _ _⟩
      · rw [scEq_no (.inr (.inl hnm))]
        obtain ⟨h1, h2⟩ := str_ne hnm
        clear hnm
        go_enter Tryd.func23, Tryd.ntmps23
        go_wp2
        go_ret
        exact ⟨rfl, hG2 _ _⟩
    · rw [scEq_no (.inl ho)]
      go_enter Tryd.func23, Tryd.ntmps23
      go_wp2
      go_ret
      exact ⟨rfl, hG2 _ _⟩
end Go.Proofs.YtppnlijeonneeaaDoor
