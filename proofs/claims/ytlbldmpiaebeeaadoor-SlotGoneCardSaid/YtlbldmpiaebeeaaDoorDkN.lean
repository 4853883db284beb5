/- Disks: Flush: a range over the map, each sector stored; the map cleared. -/
import Derived.Test.YtlbldmpiaebeeaaDoorDkM
namespace Go.Proofs.YtlbldmpiaebeeaaDoor
open Go Go.RowKit Go.Maps Go.MapKept Go.ChangeMaps

theorem grown_setD (w : World) (p : Addr) (u : Value) : w.grownBy (w.setCell p u) (some p.block) :=
  ⟨rfl, rfl, rfl, by simp [World.setCell], fun k _ hne => Below.heap_setCell w p u k fun e => hne (by rw [e])⟩
section
variable {w w' : World} {K K' : Nat → Prop} {g gs gm n m : Nat} {d : Dk}
set_option maxRecDepth 100000 in
theorem dk_flush_dead (h : DkAt w K g gs gm n m d) (hd : d.dead = true) : Calls Tryd.prog 37 #[.pointer (some ⟨g, 0, none⟩)] w fun e w' => e = .returned (.int .i64 8) ∧ w = w' := by
  have cA := dk_able h
  rw [show d.able = 8 by unfold Dk.able; rw [hd]; rfl] at cA
  go_enter Tryd.func37, Tryd.ntmps37
  go_wp2_with (go_at_call 29; (with_reducible refine cA.mono ?_); rintro e w1 ⟨rfl, rfl⟩)
  go_ret
  exact ⟨rfl, rfl⟩
/-- What the row holds while the map is gone through. -/
def MidF (f : Nat → Option Value) (cs : Array Value) (left : Lit → Bool) (n : Nat) (cs' : Array Value) : Prop := cs'.size = cs.size ∧ ∀ j, j < n → cs'[j]? = cond (left (.int .i64 (j : Int))) cs[j]? (match f j with | some v => some v | none => cs[j]?)
theorem same_int (x : Int) : (Lit.int .i64 x).sameKey (.int .i64 x) = true := by simp [Lit.sameKey]
theorem MidF.step {f : Nat → Option Value} {cs cs' : Array Value} {left : Lit → Bool} (h : MidF f cs left n cs') {i : Nat} {v : Value} (hf : f i = some v) (hi : i < cs.size) : MidF f cs (fun z => left z && !z.sameKey (.int .i64 (i : Int))) n (cs'.setIfInBounds i v) := by
  refine ⟨by rw [Array.size_setIfInBounds]; exact h.1, fun j hj => ?_⟩
  dsimp only
  by_cases e : j = i
  · subst e
    rw [Array.getElem?_setIfInBounds_self_of_lt (by rw [h.1]; exact hi), same_int, hf, Bool.not_true, Bool.and_false]
    rfl
  · rw [Array.getElem?_setIfInBounds_ne (fun e2 => e e2.symm), Maps.sameKey_ne (fun e2 => e (lit_inj e2)), h.2 j hj, Bool.not_false, Bool.and_true]
set_option maxRecDepth 100000 in
set_option maxHeartbeats 4000000 in
theorem dk_flush (h : DkAt w K g gs gm n m d) (hd : d.dead = false) : Calls Tryd.prog 37 #[.pointer (some ⟨g, 0, none⟩)] w fun e w' => e = .returned (.int .i64 0) ∧ DkAt w' K g gs gm n 0 d.flushed.did ∧ But (DkS g gs gm) w w' := by
  have cA := dk_able h
  rw [show d.able = 0 by unfold Dk.able; rw [hd]; rfl] at cA
  have hlt := h.lt
  have hne := h.ne
  have hlen := h.len
  obtain ⟨f, ⟨D, hown, h1, h2, h3⟩, hf⟩ := h.map
  obtain ⟨c, a, hc1, hc2, hb⟩ := h.top
  obtain ⟨⟨i0, i1, i2, i3, i4⟩, _⟩ := five_dk hb
  obtain ⟨cs, hB, hr⟩ := h.row
  have hsz : ∀ i, i < n → i < cs.size := fun i hi => by
    obtain ⟨v, hv, _⟩ := hr i _ (List.getElem?_eq_getElem (show i < d.safe.length by omega))
    exact (Array.getElem?_eq_some_iff.1 hv).1
  have hsome : ∀ i v, i < n → (∀ zd, D.atKey (.int .i64 (i : Int)) zd = .held v) → f i = some v := fun i v hi hat => by
    cases hfi : f i with
    | none => have := h2 i hi hfi; rw [has_true_of_atKey hat] at this; cases this
    | some u => have := h1 i hi u hfi .nil; rw [hat] at this; injection this with this; rw [this]
  go_enter Tryd.func37, Tryd.ntmps37
  go_wp2_with (first
    | (go_at_call 29; (with_reducible refine cA.mono ?_); rintro e w1 ⟨rfl, rfl⟩)
    | (at_range; refine wpList_range_own _ rfl _ 59 rfl 3 22 intD Tryd.underlying59 heldW gm m D rfl hown ?_; intro w0 hrg0 hg0 hs0))
  go_frame
  go_loopw [4] (fun _ wr => ∃ (left : Lit → Bool) (cnt : Nat) (cs' : Array Value), wr.ranges Tryd.prog 3 heldW gm w.heap.size m D left cnt ∧ Blk wr gs 22 cs' ∧ MidF f cs left n cs' ∧ But (· = gs) w wr) (fun _ wr => wr.rangeLeft gm w.heap.size)
  case atStart =>
    refine ⟨_, _, cs, hrg0, hB.grown hg0 (by simp), ⟨rfl, fun j hj => ?_⟩, (But.refl _ _).grown hg0 (fun j hj => by cases hj)⟩
    cases hh : Maps.has D (.int .i64 (j : Int)) with
    | true => rfl
    | false =>
      rw [cond_false]
      cases hfj : f j with
      | none => rfl
      | some v => rw [has_true_of_atKey (h1 j hj v hfj)] at hh; cases hh
  case round =>
    obtain ⟨left, cnt, cs', hrg, hBr, hM, hbr⟩ := hrel
    have hbr0 := hbr.blk hb (fun e => hne.1 e)
    obtain ⟨⟨r0, r1, r2, r3, r4⟩, _⟩ := five_dk hbr0
    go_wp2_with (at_next; refine wpList_next_held _ rfl _ rfl 3 Tryd.underlying3 gm w.heap.size m n D left cnt rfl hrg h3 ?_ ?_)
    · intro hl0
      have hown2 := hrg.owns
      go_wp2_with (first
        | (with_reducible refine wpList_clear_own _ rfl _ 59 3 rfl 22 Tryd.underlying59 gm m D rfl hown2 ?_; intro w3 hown3 ht3
           have hb3 : But (DkS g gs gm) w w3 := (hbr.mono (fun k hk => .inr (.inl hk))).grown ht3.grown (fun j hj => .inl (.inr (.inr (by injection hj with hj; exact hj.symm))))
           have hg3 : w3.heap[g]? = w.heap[g]? := (ht3.grown.block g (Nat.lt_of_lt_of_le (hlt g (.inl rfl)) hbr.size) (fun e => hne.2.1 (by injection e))).trans (hbr.block g (hlt g (.inl rfl)) hne.1)
           have hB3 : Blk w3 gs 22 cs' := hBr.grown ht3.grown (fun e => hne.2.2 (by injection e))
           have hD3 := h.flushed hb3 hf hr hB3 (fun j hj => by rw [hM.2 j hj, hl0, cond_false]; cases f j <;> rfl) (MapI.empty hown3 n) hg3
           have cD := dk_did hD3)
        | (go_at_call 25; (with_reducible refine cD.mono ?_); rintro e w4 ⟨rfl, hD4, hb4⟩))
      go_ret
      exact ⟨rfl, hD4, hb3.trans (hb4.mono fun k hk => .inl hk)⟩
    · intro i v w1 cnt1 hin hlk hat hrg1 hlt1 hg1 hs1 hen
      have hfi := hsome i v hin hat
      obtain ⟨A, cc, len, rfl⟩ : ∃ A cc len, v = .slice A len cc := by
        rcases hf i hin with ⟨e, _⟩ | ⟨u, l, e, _, A, cc, e2, _⟩
        · rw [hfi] at e; cases e
        · rw [hfi] at e; injection e with e; exact ⟨A, cc, _, e.trans e2⟩
      have hb1 : But (· = gs) w w1 := hbr.grown hg1 (fun j hj => .inr (by injection hj with hj; omega))
      have hb10 := hb1.blk hb (fun e => hne.1 e)
      obtain ⟨⟨s0, s1, s2, s3, s4⟩, _⟩ := five_dk hb10
      have hB1 : Blk w1 gs 22 cs' := hBr.grown hg1 (fun e => by injection e with e; have := hlt gs (.inr (.inl rfl)); omega)
      have hin2 : i < cs'.size := by rw [hM.1]; exact hsz i hin
      have hcell : w1.cell? ⟨gs, i, none⟩ = some cs'[i] := (hB1.cell i).trans (Array.getElem?_eq_getElem hin2)
      have hfrz := hB1.frozen i
      have hB2 := hB1.set_ i (.slice A len cc)
      have hM2 := hM.step hfi (hsz i hin)
      have hrg2 := hrg1.kept (grown_setD w1 ⟨gs, i, none⟩ (.slice A len cc)) (fun e => hne.2.2 (by injection e with e; exact e.symm)) (fun e => by injection e with e; have e : w.heap.size = gs := e; have := hlt gs (.inr (.inl rfl)); omega)
      have hb2 := hb1.setCell (p := ⟨gs, i, none⟩) (.inl rfl) (.slice A len cc)
      clear hs1
      go_wp2
      go_roundw
      case rel => exact ⟨_, cnt1, _, hrg2, hB2, hM2, hb2⟩
      case measure => rw [hrg2.left_eq, hrg.left_eq]; exact hlt1
end
end Go.Proofs.YtlbldmpiaebeeaaDoor
