/- Disks: Write (a region that draws its order: the clone, then the store in the map). -/
import Derived.Test.YtlbldmpiaebeeaaDoorDkL
namespace Go.Proofs.YtlbldmpiaebeeaaDoor
open Go Go.RowKit Go.Maps Go.MapKept Go.ChangeMaps

section
variable {w w' : World} {K K' : Nat → Prop} {g gs gm n m : Nat} {d : Dk}
/-- The blocks of K, and those that are new. -/
def KW (K : Nat → Prop) (w w' : World) : Nat → Prop := fun b => K b ∨ (w.heap.size ≤ b ∧ b < w'.heap.size)
theorem DkAt.kw {W : World} (h : DkAt W (KW K w W) g gs gm n m d) (hl : ∀ k, DkS g gs gm k → k < w.heap.size) (hk : ∀ b, K b → ¬ DkS g gs gm b) (hb : Below W.heap.size W w') : DkAt w' (KW K w w') g gs gm n m d := by
  refine (h.gr hb).wide (fun b hb2 => hb2.imp id fun h3 => ⟨h3.1, Nat.lt_of_lt_of_le h3.2 hb.size⟩) fun b hb2 => ?_
  rcases hb2 with h3 | h3
  · exact ⟨Nat.lt_of_lt_of_le (h.kk b (.inl h3)).1 hb.size, hk b h3⟩
  · exact ⟨h3.2, fun hs => by have := hl b hs; omega⟩
set_option maxRecDepth 100000 in
theorem dk_write_no (h : DkAt w K g gs gm n m d) (i : Int) (v : Value) (hi : d.there i ≠ 0) : Calls Tryd.prog 10 #[.pointer (some ⟨g, 0, none⟩), .int .i64 i, v] w fun e w' => e = .returned (.int .i64 (d.there i)) ∧ w = w' := by
  have cT := dk_there h i
  generalize d.there i = c at *
  go_enter Tryd.func10, Tryd.ntmps10
  go_wp2_with (go_at_call 23; (with_reducible refine cT.mono ?_); rintro e w1 ⟨rfl, rfl⟩)
  all_goals (try (exfalso; omega))
  go_ret
  exact ⟨rfl, rfl⟩
set_option maxRecDepth 100000 in
theorem dk_write_len (h : DkAt w K g gs gm n m d) (i : Int) (A : Option Addr) (len c : Nat) (hi : d.there i = 0) (hl : len ≠ 256) : Calls Tryd.prog 10 #[.pointer (some ⟨g, 0, none⟩), .int .i64 i, .slice A len c] w fun e w' => e = .returned (.int .i64 1) ∧ w = w' := by
  have cT := dk_there h i
  rw [hi] at cT
  go_enter Tryd.func10, Tryd.ntmps10
  go_wp2_with (go_at_call 23; (with_reducible refine cT.mono ?_); rintro e w1 ⟨rfl, rfl⟩)
  all_goals (try (exfalso; omega))
  go_ret
  exact ⟨rfl, rfl⟩
set_option maxRecDepth 100000 in
set_option maxHeartbeats 4000000 in
theorem dk_write (h : DkAt w K g gs gm n m d) (i : Nat) (v : Value) (l : List UInt8) (hi : d.there i = 0) (hv : RdB w w.heap.size v l) (hl : l.length = 256) (hm : m ≤ 1000000) :
    Calls Tryd.prog 10 #[.pointer (some ⟨g, 0, none⟩), .int .i64 i, v] w fun e w' => e = .returned (.int .i64 0) ∧ DkAt w' (KW K w w') g gs gm n (m + 1) (d.put i l).did ∧ But (DkS g gs gm) w w' := by
  have cT := dk_there h i
  rw [hi] at cT
  obtain ⟨k, ek, hk, _⟩ := there_ok hi h.len.1
  obtain rfl : i = k := by omega
  have hlen := h.len
  have hlt := h.lt
  have hkn : ∀ b, K b → ¬ DkS g gs gm b := fun b hb => (h.kk b hb).2
  have hky := key_small (i := i) (by omega)
  obtain ⟨A, c, rfl, hc, _⟩ := id hv
  rw [hl] at hv hc ⊢
  go_enter Tryd.func10, Tryd.ntmps10
  go_wp2_with (go_at_call 23; (with_reducible refine cT.mono ?_); rintro e w1 ⟨rfl, rfl⟩)
  all_goals (try (exfalso; omega))
  clear cT hc
  let fC : Fact := ⟨fun u W => RkB W (fun b => w.heap.size ≤ b ∧ b < W.heap.size) u l, fun u W W' hp hg => (hp.keep fun p hp2 => hg.cell hp2.2).mono fun b hb => ⟨hb.1, Nat.lt_of_lt_of_le hb.2 hg.size⟩⟩
  let fE : Fact := ⟨fun _ W => DkAt W (KW K w W) g gs gm n (m + 1) (d.put i l) ∧ But (DkS g gs gm) w W, fun _ W W' hp hg => ⟨hp.1.kw hlt hkn hg, hp.2.gr hg⟩⟩
  refine wp_region_facts [.is (.pointer (some ⟨g, 0, none⟩)), .is (.pointer (some ⟨g, 0, none⟩)), .is (.pointer (some ⟨g, 1, none⟩)), .is (.map (some gm)), .is (.int .i64 i), .is (.slice A 256 c), fC, fE]
    (fun W => DkAt W K g gs gm n m d ∧ RdB W w.heap.size (.slice A 256 c) l ∧ Gr w W) (fun k j => k == 7 && decide (j < 7)) (fun k => k == 7) 0 (by kernel_rfl) rfl (by kernel_rfl) (by kernel_rfl) (Nat.zero_le _) ⟨h.gr (Gr.drew _), hv.gr (Nat.le_refl _) (Gr.drew _), Gr.drew _⟩ (fun vals => by simp [fillA, dstsOf, go_sem]; rfl) ?_ ?_
  · intro k hk8
    replace hk8 : k < 8 := hk8
    have hI : ∀ W W', (DkAt W K g gs gm n m d ∧ RdB W w.heap.size (.slice A 256 c) l ∧ Gr w W) → Gr W W' → (DkAt W' K g gs gm n m d ∧ RdB W' w.heap.size (.slice A 256 c) l ∧ Gr w W') := fun W W' hp hg => ⟨hp.1.gr hg, hp.2.1.gr hp.2.2.size hg, Gr.trans hp.2.2 hg⟩
    rcases (by omega : k = 0 ∨ k = 1 ∨ k = 2 ∨ k = 3 ∨ k = 4 ∨ k = 5 ∨ k = 6 ∨ k = 7) with rfl | rfl | rfl | rfl | rfl | rfl | rfl | rfl
    · refine step_g 0 [] _ _ rfl rfl hI (by kernel_rfl) fun vals W hb hB hIw hd => ?_
      go_wp2
      exact ⟨rfl, _, rfl, Gr.refl _, rfl⟩
    · refine step_g 1 [0] _ _ rfl rfl hI (by kernel_rfl) fun vals W hb hB hIw hd => ?_
      have h0 : vals 0 = _ := hd 0 (by simp) _ rfl
      rw [h0]
      go_wp2
      exact ⟨rfl, _, rfl, Gr.refl _, rfl⟩
    · refine step_g 2 [1] _ _ rfl rfl hI (by kernel_rfl) fun vals W hb hB hIw hd => ?_
      have h0 : vals 1 = _ := hd 1 (by simp) _ rfl
      rw [h0]
      go_wp2
      exact ⟨rfl, _, rfl, Gr.refl _, rfl⟩
    · refine step_g 3 [2] _ _ rfl rfl hI (by kernel_rfl) fun vals W hb hB hIw hd => ?_
      have h0 : vals 2 = _ := hd 2 (by simp) _ rfl
      rw [h0]
      obtain ⟨hD, _, _⟩ := hIw (by kernel_rfl)
      obtain ⟨c', a', _, _, hbk⟩ := hD.top
      obtain ⟨⟨i0, i1, i2, i3, i4⟩, _⟩ := five_dk hbk
      go_wp2
      exact ⟨rfl, _, rfl, Gr.refl _, rfl⟩
    · refine step_g 4 [] _ _ rfl rfl hI (by kernel_rfl) fun vals W hb hB hIw hd => ?_
      go_wp2
      exact ⟨rfl, _, rfl, Gr.refl _, rfl⟩
    · refine step_g 5 [] _ _ rfl rfl hI (by kernel_rfl) fun vals W hb hB hIw hd => ?_
      go_wp2
      exact ⟨rfl, _, rfl, Gr.refl _, rfl⟩
    · refine step_g 6 [5] _ _ rfl rfl hI (by kernel_rfl) fun vals W hb hB hIw hd => ?_
      have h0 : vals 5 = _ := hd 5 (by simp) _ rfl
      rw [h0]
      obtain ⟨_, hR, hg0⟩ := hIw (by kernel_rfl)
      have cC := clone_d W w.heap.size _ l hg0.size hR (by omega)
      go_wp2_with (go_at_call 24; (with_reducible refine cC.mono ?_); rintro e w2 ⟨u, rfl, ho, hg⟩)
      exact ⟨rfl, _, rfl, hg, ho.rk.mono fun b hb => ⟨Nat.le_trans hg0.size hb.1, hb.2⟩⟩
    · refine step_s 7 [3, 4, 6] [] _ _ rfl rfl (by kernel_rfl) (by kernel_rfl) fun vals W hb hB hIw hd => ?_
      have e3 : vals 3 = _ := hd 3 (by simp) _ rfl
      have e4 : vals 4 = _ := hd 4 (by simp) _ rfl
      have h6 : RkB W (fun b => w.heap.size ≤ b ∧ b < W.heap.size) (vals 6) l := hd 6 (by simp) _ rfl
      obtain ⟨hD, _, hg0⟩ := hIw (by kernel_rfl)
      obtain ⟨f, ⟨D, hown, h1, h2, h3⟩, hf⟩ := hD.map
      rw [e3, e4]
      generalize vals 6 = u at h6 ⊢
      refine wpList_mapUpdate_own W rfl _ _ _ 59 rfl 3 22 intD Tryd.underlying59 heldW gm m D rfl hown (by unfold maxLen; omega) (.int .i64 i) u (.int .i64 i) rfl rfl hky (.held u) [] rfl ?_
      intro w2 hown2 hg2
      refine wpList_nil ?_
      have hD' : DkAt W (KW K w W) g gs gm n m d := hD.wide (fun b hb => .inl hb) fun b hb => by
        rcases hb with h4 | h4
        · exact hD.kk b h4
        · exact ⟨h4.2, fun hs => by have := hlt b hs; omega⟩
      have hf' : MapOk W (KW K w W) n d f := fun j hj => (hf j hj).imp id fun ⟨v, l, a1, a2, a3⟩ => ⟨v, l, a1, a2, a3.mono fun b hb => .inl hb⟩
      have hput := hD'.put hg2 hf' hk (MapI.put hk hown.isMap hown2 h1 h2 h3) (h6.mono fun b hb => .inr hb)
      have hfin : DkAt w2 (KW K w w2) g gs gm n (m + 1) (d.put i l) := hput.wide (fun b hb => hb.imp id fun h4 => ⟨h4.1, Nat.lt_of_lt_of_le h4.2 hg2.size⟩) fun b hb => by
        rcases hb with h4 | h4
        · exact hput.kk b (.inl h4)
        · exact ⟨h4.2, fun hs => by have := hlt b hs; omega⟩
      exact ⟨rfl, _, rfl, ⟨hg2.os, hg2.tape, hg2.output, hg2.size, fun k hk => absurd hk (Nat.not_lt_zero k)⟩, ⟨hfin, (But.of_gr _ hg0).grown hg2 fun j hj => .inl (.inr (.inr (by injection hj with hj; exact hj.symm)))⟩, fun h _ => absurd h (by decide), fun j hj => absurd hj List.not_mem_nil⟩
  · intro vals W3 hb3 hf
    obtain ⟨hD3, hB3⟩ := (show DkAt W3 (KW K w W3) g gs gm n (m + 1) (d.put i l) ∧ But (DkS g gs gm) w W3 from hf 7 _ rfl (fun k hk => by simp))
    have cD := dk_did hD3
    go_wp2_with (go_at_call 25; (with_reducible refine cD.mono ?_); rintro e w4 ⟨rfl, hD4, hB4⟩)
    go_ret
    refine ⟨rfl, ?_, hB3.trans (hB4.mono fun k hk => .inl hk)⟩
    refine hD4.wide (fun b hb => hb.imp id fun h4 => ⟨h4.1, Nat.lt_of_lt_of_le h4.2 hB4.size⟩) fun b hb => ?_
    rcases hb with h4 | h4
    · exact hD4.kk b (.inl h4)
    · exact ⟨h4.2, fun hs => by have := hlt b hs; omega⟩
end
end Go.Proofs.YtlbldmpiaebeeaaDoor
