/- Disks: Crash: some of what is pending stays. -/
import Derived.Test.YtlbldmpiaebeeaaDoorDkN
import Derived.Test.YtlbldmpiaebeeaaDoorDkX
namespace Go.Proofs.YtlbldmpiaebeeaaDoor
open Go Go.RowKit Go.Maps Go.MapKept Go.ChangeMaps

/-- What the row holds when k of those that are pending have been gone through. -/
def MidC (f : Nat → Option Value) (cs : Array Value) (keep : List Bool) (rk : Nat → Nat) (k n : Nat) (cs' : Array Value) : Prop :=
  cs'.size = cs.size ∧ ∀ j, j < n → cs'[j]? = (match f j with | some v => cond (decide (rk j < k) && keep.getD (rk j) false) (some v) cs[j]? | none => cs[j]?)
theorem MidC.start (f : Nat → Option Value) (cs : Array Value) (keep : List Bool) (rk : Nat → Nat) (n : Nat) : MidC f cs keep rk 0 n cs :=
  ⟨rfl, fun j _ => by
    cases f j with
    | none => rfl
    | some v => rw [show decide (rk j < 0) = false from decide_eq_false (Nat.not_lt_zero _)]; rfl⟩
theorem MidC.no {f : Nat → Option Value} {cs cs' : Array Value} {keep : List Bool} {rk : Nat → Nat} {k n : Nat} (h : MidC f cs keep rk k n cs') (hk : keep.getD k false = false) : MidC f cs keep rk (k + 1) n cs' := by
  refine ⟨h.1, fun j hj => ?_⟩
  rw [h.2 j hj]
  cases f j with
  | none => rfl
  | some v =>
    dsimp only
    by_cases e : rk j = k
    · rw [e, hk, Bool.and_false, Bool.and_false]
    · rw [show decide (rk j < k + 1) = decide (rk j < k) by rw [decide_eq_decide]; omega]
theorem MidC.yes {f : Nat → Option Value} {cs cs' : Array Value} {keep : List Bool} {rk : Nat → Nat} {k n i : Nat} {v : Value} (h : MidC f cs keep rk k n cs') (hk : keep.getD k false = true) (hi : i < cs.size) (hf : f i = some v) (hr : rk i = k)
    (hinj : ∀ j, j < n → (f j).isSome = true → rk j = k → j = i) : MidC f cs keep rk (k + 1) n (cs'.setIfInBounds i v) := by
  refine ⟨by rw [Array.size_setIfInBounds]; exact h.1, fun j hj => ?_⟩
  by_cases e : j = i
  · subst e
    rw [Array.getElem?_setIfInBounds_self_of_lt (by rw [h.1]; exact hi), hf]
    dsimp only
    rw [hr, hk, show decide (k < k + 1) = true from decide_eq_true (Nat.lt_succ_self k)]
    rfl
  · rw [Array.getElem?_setIfInBounds_ne (fun e2 => e e2.symm), h.2 j hj]
    cases hfj : f j with
    | none => rfl
    | some u =>
      dsimp only
      have hne : rk j ≠ k := fun e2 => e (hinj j hj (by rw [hfj]; rfl) e2)
      rw [show decide (rk j < k + 1) = decide (rk j < k) by rw [decide_eq_decide]; omega]
theorem own_formD {w : World} {base e size n : Nat} {v : Value} {xs : List Value} (h : w.ownsRow base e size v n xs) : ∃ A c, v = .slice A n c ∧ n ≤ c ∧ c ≤ maxLen := by
  rcases h.2 with ⟨rfl, h0⟩ | ⟨g, cap, cur, rfl, e2, e3, e4, e5, _⟩
  · exact ⟨none, 0, by rw [h0], by omega, Nat.zero_le _⟩
  · exact ⟨_, _, rfl, e4, e5⟩
theorem addrD (b k : Nat) : (⟨b, 0, none⟩ : Addr).add k = ⟨b, k, none⟩ := by unfold Addr.add; split <;> simp_all
section
variable {w w' : World} {K K' : Nat → Prop} {g gs gm n m : Nat} {d : Dk}
theorem own_but {S : Nat → Prop} {D : DataW Value} (h : w.ownsMap Tryd.prog 3 heldW gm m D) (hb : But S w w') (hs : ¬ S gm) : w'.ownsMap Tryd.prog 3 heldW gm m D := by
  have hl := h.lt
  obtain ⟨es, clock, h1, h2⟩ := h
  exact ⟨es, clock, (hb.block gm hl hs).trans h1, h2⟩
theorem own_grD {D : DataW Value} (h : w.ownsMap Tryd.prog 3 heldW gm m D) (hb : Gr w w') : w'.ownsMap Tryd.prog 3 heldW gm m D := own_but h (But.of_gr (fun _ => False) hb) id
set_option maxRecDepth 100000 in
set_option maxHeartbeats 8000000 in
theorem dk_crash (h0 : DkAt w K g gs gm n m d) (keep : List Bool) (kv : Value) (Kk : Nat → Prop) (hKk : ∀ b, Kk b → b < w.heap.size ∧ ¬ DkS g gs gm b) (hkp : RdBools w Kk kv keep) : Calls Tryd.prog 16 #[.pointer (some ⟨g, 0, none⟩), kv] w fun e w' => e = .returned (.tuple #[]) ∧ DkAt w' K g gs gm n 0 (d.crash keep) ∧ But (DkS g gs gm) w w' := by
  have cI := dk_is h0
  have cP := dk_pending h0
  have hlt0 := h0.lt
  obtain ⟨kA, kc, rfl, ⟨hkc1, hkc2⟩, hkr⟩ := hkp
  unfold maxLen at hkc2
  go_enter Tryd.func16, Tryd.ntmps16
  go_wp2_with (first
    | (go_at_call 30; (with_reducible refine cI.mono ?_); rintro e w1 ⟨rfl, rfl⟩)
    | (go_at_call 31; (with_reducible refine cP.mono ?_); rintro e w1 ⟨pv, rfl, hown1, hg1⟩
       have h := h0.gr hg1
       obtain ⟨pA, pc, rfl, hpc1, hpc2⟩ := own_formD hown1))
  have hlt := h.lt
  have hne := h.ne
  have hlen := h.len
  have hpn : d.pending.length ≤ 1024 := by
    obtain ⟨f, _, hf⟩ := h.map
    rw [← pending_keys hlen.2.1 (fun i hi => MapOk.isSome hf i hi)]
    have := keysW_len n f
    omega
  obtain ⟨f, ⟨D, hown, h1, h2, h3⟩, hf⟩ := h.map
  obtain ⟨c, a, hc1, hc2, hb⟩ := h.top
  obtain ⟨cs, hB, hr⟩ := h.row
  have hsz : ∀ i, i < n → i < cs.size := fun i hi => by
    obtain ⟨v, hv, _⟩ := hr i _ (List.getElem?_eq_getElem (show i < d.safe.length by omega))
    exact (Array.getElem?_eq_some_iff.1 hv).1
  have hsg : w.heap.size ≤ w1.heap.size := hg1.size
  go_loopw [12] (fun v12 wr => ∃ (k : Nat) (cs' : Array Value), v12 = .int .i64 k ∧ k ≤ d.pending.length ∧ Blk wr gs 22 cs' ∧ MidC f cs keep (rankS d.wait) k n cs' ∧ But (· = gs) w1 wr) (fun v12 _ => d.pending.length - (intOf v12).toNat)
  case atStart => exact ⟨0, cs, rfl, Nat.zero_le _, hB, MidC.start _ _ _ _ _, But.refl _ _⟩
  case round =>
    obtain ⟨k, cs', rfl, hk, hBr, hM, hbr⟩ := hrel
    have hbg := hbr.blk hb (fun e => hne.1 e)
    obtain ⟨⟨r0, r1, r2, r3, r4⟩, f0, f1, f2, f3, f4⟩ := five_dk hbg
    by_cases hp : k < d.pending.length
    · obtain ⟨i, hpi⟩ : ∃ i, d.pending[k]? = some i := ⟨_, List.getElem?_eq_getElem hp⟩
      obtain ⟨i', l, ei, hwi, hrk⟩ := pendS_rank d.wait 0 k i hpi
      obtain rfl : i = i' := by omega
      clear ei
      have hin : i < n := by rw [← hlen.2.1]; exact (List.getElem?_eq_some_iff.1 hwi).1
      obtain ⟨A, len, cc, hfi⟩ : ∃ A len cc, f i = some (.slice A len cc) := by
        rcases hf i hin with ⟨_, e⟩ | ⟨u, l2, e, _, A, cc, e2, _⟩
        · rw [hwi] at e; cases e
        · exact ⟨A, _, cc, by rw [e, e2]⟩
      have hinj : ∀ j, j < n → (f j).isSome = true → rankS d.wait j = k → j = i := fun j hj hs hr2 => by
        rcases hf j hj with ⟨e, _⟩ | ⟨u, l2, _, e, _⟩
        · rw [e] at hs; cases hs
        · exact rank_inj d.wait j i l2 l e hwi (hr2.trans hrk.symm)
      obtain ⟨pb, hpA, hpb⟩ : ∃ pb, pA = some ⟨pb, 0, none⟩ ∧ w.heap.size ≤ pb ∧ pb < w1.heap.size := by
        rcases hown1.2 with ⟨e, e2⟩ | ⟨pb, cap, cur, e, e2, e3, _⟩
        · omega
        · injection e with e
          exact ⟨pb, e, e2, (Array.getElem?_eq_some_iff.1 e3).1⟩
      subst hpA
      have hpc : w1.cell? ⟨pb, k, none⟩ = some (.int .i64 (i : Int)) := by
        have := World.ownsRow.cells hown1 rfl k (.int .i64 (i : Int)) (by rw [List.getElem?_map, hpi]; rfl)
        rwa [addrD] at this
      have hpc2 : wr.cell? ⟨pb, k, none⟩ = some (.int .i64 (i : Int)) := (hbr.cell (p := ⟨pb, k, none⟩) hpb.2 (fun e => by have e : pb = gs := e; have := hlt0 gs (.inr (.inl rfl)); omega)).trans hpc
      by_cases hkl : k < keep.length
      · obtain ⟨kad, rfl, hkb, hkcell⟩ := hkr.2 (by omega)
        obtain ⟨hkb, hkS⟩ := hKk _ hkb
        have hkc0 : wr.cell? (kad.add k) = some (.bool keep[k]) := by
          rw [hbr.cell (by rw [block_of_add]; omega) (fun e => hkS (.inr (.inl (by have e : (kad.add k).block = gs := e; rw [block_of_add] at e; exact e)))), hg1.cell (by rw [block_of_add]; exact hkb)]
          exact hkcell k _ (by rw [List.getElem?_map, List.getElem?_eq_getElem hkl]; rfl)
        have hkd : keep.getD k false = keep[k] := by rw [List.getD_eq_getElem?_getD, List.getElem?_eq_getElem hkl]; rfl
        cases hkv : keep[k] with
        | false =>
          rw [hkv] at hkc0 hkd
          have hM2 := hM.no hkd
          clear hinj hrk hpi hkv hwi hkd
          go_wp2
          go_roundw
          case rel => exact ⟨k + 1, cs', by go_num, by omega, hBr, hM2, hbr⟩
          case measure => simp [intOf]; omega
        | true =>
          rw [hkv] at hkc0 hkd
          have hM2 := hM.yes hkd (hsz i hin) hfi hrk hinj
          have hin2 : i < cs'.size := by rw [hM.1]; exact hsz i hin
          clear hinj hrk hpi hkv hwi hkd
          go_wp2
          let fE : Fact := ⟨fun _ W => Blk W gs 22 (cs'.setIfInBounds i (.slice A len cc)) ∧ But (· = gs) wr W, fun _ W W' hp hg => ⟨hp.1.below hg hp.1.lt, hp.2.gr hg⟩⟩
          refine wp_region_facts [.is (.pointer (some ⟨g, 0, none⟩)), .is (.pointer (some ⟨g, 0, none⟩)), .is (.pointer (some ⟨g, 0, none⟩)), .is (.slice (some ⟨gs, 0, none⟩) n c), .is (.int .i64 i), .is (.pointer (some ⟨g, 0, none⟩)), .is (.pointer (some ⟨g, 0, none⟩)), .is (.pointer (some ⟨g, 1, none⟩)), .is (.map (some gm)), .is (.int .i64 i), .is (.slice A len cc), .is (.pointer (some ⟨gs, i, none⟩)), fE]
            (fun W => Gr wr W) (fun k j => k == 12 && decide (j < 12)) (fun k => k == 12) 0 (by kernel_rfl) rfl (by kernel_rfl) (by kernel_rfl) (Nat.zero_le _) (Gr.drew _) (fun vals => by simp [fillA, dstsOf, go_sem]; rfl) ?_ ?_
          · intro q hq
            replace hq : q < 13 := hq
            have hI : ∀ W W', Gr wr W → Gr W W' → Gr wr W' := fun W W' hp hg => Gr.trans hp hg
            rcases (by omega : q = 0 ∨ q = 1 ∨ q = 2 ∨ q = 3 ∨ q = 4 ∨ q = 5 ∨ q = 6 ∨ q = 7 ∨ q = 8 ∨ q = 9 ∨ q = 10 ∨ q = 11 ∨ q = 12) with rfl | rfl | rfl | rfl | rfl | rfl | rfl | rfl | rfl | rfl | rfl | rfl | rfl
            · refine step_g 0 [] _ _ rfl rfl hI (by kernel_rfl) fun vals W hb_ hB_ hIw hd => ?_
              go_wp2
              exact ⟨rfl, _, rfl, Gr.refl _, rfl⟩
            · refine step_g 1 [0] _ _ rfl rfl hI (by kernel_rfl) fun vals W hb_ hB_ hIw hd => ?_
              have e0 : vals 0 = _ := hd 0 (by simp) _ rfl
              rw [e0]
              go_wp2
              exact ⟨rfl, _, rfl, Gr.refl _, rfl⟩
            · refine step_g 2 [1] _ _ rfl rfl hI (by kernel_rfl) fun vals W hb_ hB_ hIw hd => ?_
              have e1 : vals 1 = _ := hd 1 (by simp) _ rfl
              rw [e1]
              go_wp2
              exact ⟨rfl, _, rfl, Gr.refl _, rfl⟩
            · refine step_g 3 [2] _ _ rfl rfl hI (by kernel_rfl) fun vals W hb_ hB_ hIw hd => ?_
              have e2 : vals 2 = _ := hd 2 (by simp) _ rfl
              rw [e2]
              have hbW := hbg.below (hIw (by kernel_rfl)) hbg.lt
              obtain ⟨⟨q0, q1, q2, q3, q4⟩, _⟩ := five_dk hbW
              go_wp2
              exact ⟨rfl, _, rfl, Gr.refl _, rfl⟩
            · refine step_g 4 [] _ _ rfl rfl hI (by kernel_rfl) fun vals W hb_ hB_ hIw hd => ?_
              go_wp2
              exact ⟨rfl, _, rfl, Gr.refl _, rfl⟩
            · refine step_g 5 [] _ _ rfl rfl hI (by kernel_rfl) fun vals W hb_ hB_ hIw hd => ?_
              go_wp2
              exact ⟨rfl, _, rfl, Gr.refl _, rfl⟩
            · refine step_g 6 [5] _ _ rfl rfl hI (by kernel_rfl) fun vals W hb_ hB_ hIw hd => ?_
              have e5 : vals 5 = _ := hd 5 (by simp) _ rfl
              rw [e5]
              go_wp2
              exact ⟨rfl, _, rfl, Gr.refl _, rfl⟩
            · refine step_g 7 [6] _ _ rfl rfl hI (by kernel_rfl) fun vals W hb_ hB_ hIw hd => ?_
              have e6 : vals 6 = _ := hd 6 (by simp) _ rfl
              rw [e6]
              go_wp2
              exact ⟨rfl, _, rfl, Gr.refl _, rfl⟩
            · refine step_g 8 [7] _ _ rfl rfl hI (by kernel_rfl) fun vals W hb_ hB_ hIw hd => ?_
              have e7 : vals 7 = _ := hd 7 (by simp) _ rfl
              rw [e7]
              have hbW := hbg.below (hIw (by kernel_rfl)) hbg.lt
              obtain ⟨⟨q0, q1, q2, q3, q4⟩, _⟩ := five_dk hbW
              go_wp2
              exact ⟨rfl, _, rfl, Gr.refl _, rfl⟩
            · refine step_g 9 [] _ _ rfl rfl hI (by kernel_rfl) fun vals W hb_ hB_ hIw hd => ?_
              go_wp2
              exact ⟨rfl, _, rfl, Gr.refl _, rfl⟩
            · refine step_g 10 [8, 9] _ _ rfl rfl hI (by kernel_rfl) fun vals W hb_ hB_ hIw hd => ?_
              have e8 : vals 8 = _ := hd 8 (by simp) _ rfl
              have e9 : vals 9 = _ := hd 9 (by simp) _ rfl
              rw [e8, e9]
              have hownW := own_grD (own_but hown hbr (fun e => hne.2.2 e.symm)) (hIw (by kernel_rfl))
              refine wpList_look_held W rfl _ _ 59 rfl 3 22 intD Tryd.underlying59 (zero_bytesD _) gm m D rfl hownW (.int .i64 i) (.int .i64 i) rfl (key_small (by omega)) (.slice A len cc) (h1 i hin _ hfi) ?_
              refine wpList_nil ?_
              exact ⟨rfl, _, rfl, Gr.refl _, rfl⟩
            · refine step_g 11 [3, 4] _ _ rfl rfl hI (by kernel_rfl) fun vals W hb_ hB_ hIw hd => ?_
              have e3 : vals 3 = _ := hd 3 (by simp) _ rfl
              have e4 : vals 4 = _ := hd 4 (by simp) _ rfl
              rw [e3, e4]
              go_wp2
              exact ⟨rfl, _, rfl, Gr.refl _, rfl⟩
            · refine step_s 12 [10, 11] [] _ _ rfl rfl (by kernel_rfl) (by kernel_rfl) fun vals W hb_ hB_ hIw hd => ?_
              have e10 : vals 10 = _ := hd 10 (by simp) _ rfl
              have e11 : vals 11 = _ := hd 11 (by simp) _ rfl
              rw [e10, e11]
              have hgW := hIw (by kernel_rfl)
              have hBW := hBr.below hgW hBr.lt
              have hcell : W.cell? ⟨gs, i, none⟩ = some cs'[i] := (hBW.cell i).trans (Array.getElem?_eq_getElem hin2)
              have hfrz := hBW.frozen i
              go_wp2
              have hbt : But (· = gs) wr (W.setCell ⟨gs, i, none⟩ (.slice A len cc)) := (But.of_gr (· = gs) hgW).setCell (p := ⟨gs, i, none⟩) (.inl rfl) _
              exact ⟨rfl, undef, rfl, ⟨rfl, rfl, rfl, by simp [World.setCell], fun k hk => absurd hk (Nat.not_lt_zero k)⟩, ⟨hBW.set_ i _, hbt⟩, fun h _ => absurd h (by decide), fun j hj => absurd hj List.not_mem_nil⟩
          · intro vals W3 hb3 hfs
            obtain ⟨hB3, hbt3⟩ := (show Blk W3 gs 22 (cs'.setIfInBounds i (.slice A len cc)) ∧ But (· = gs) wr W3 from hfs 12 _ rfl (fun k hk => by simp))
            go_wp2
            go_roundw
            case rel => exact ⟨k + 1, _, by go_num, by omega, hB3, hM2, hbr.trans hbt3⟩
            case measure => simp [intOf]; omega
      · have hkd : keep.getD k false = false := by rw [List.getD_eq_getElem?_getD, List.getElem?_eq_none (by omega)]; rfl
        have hM2 := hM.no hkd
        clear hinj hrk hpi hwi hkd
        go_wp2
        go_roundw
        case rel => exact ⟨k + 1, cs', by go_num, by omega, hBr, hM2, hbr⟩
        case measure => simp [intOf]; omega
    · obtain rfl : k = d.pending.length := by omega
      have hownr := own_but hown hbr (fun e => hne.2.2 e.symm)
      go_wp2_with (first
        | (with_reducible refine wpList_clear_own _ rfl _ 59 3 rfl 22 Tryd.underlying59 gm m D rfl hownr ?_; intro w3 hown3 ht3
           have hb3 := hbg.grown ht3.grown (fun e => hne.2.1 (by injection e))
           obtain ⟨⟨s0, s1, s2, s3, s4⟩, z0, z1, z2, z3, z4⟩ := five_dk hb3)
        | fail)
      have hbA : But (DkS g gs gm) w1 w3 := (hbr.mono (fun k hk => .inr (.inl hk))).grown ht3.grown (fun j hj => .inl (.inr (.inr (by injection hj with hj; exact hj.symm))))
      have hbB : ∀ x y, But (DkS g gs gm) w1 ((w3.setCell ⟨g, 2, none⟩ x).setCell ⟨g, 4, none⟩ y) := fun x y => (hbA.setCell (p := ⟨g, 2, none⟩) (.inl (.inl rfl)) x).setCell (p := ⟨g, 4, none⟩) (.inl (.inl rfl)) y
      have hB3 : Blk w3 gs 22 cs' := hBr.grown ht3.grown (fun e => hne.2.2 (by injection e))
      have hB4 : ∀ x y, Blk ((w3.setCell ⟨g, 2, none⟩ x).setCell ⟨g, 4, none⟩ y) gs 22 cs' := fun x y => (hB3.far (p := ⟨g, 2, none⟩) (fun e => hne.1 e.symm) x).far (p := ⟨g, 4, none⟩) (fun e => hne.1 e.symm) y
      have hmp : ∀ x y, MapI Tryd.prog 3 ((w3.setCell ⟨g, 2, none⟩ x).setCell ⟨g, 4, none⟩ y) gm 0 n fun _ => none := fun x y => (MapI.empty hown3 n).kept ((Below.heap_setCell _ ⟨g, 4, none⟩ y gm (fun e => hne.2.1 e.symm)).trans (Below.heap_setCell _ ⟨g, 2, none⟩ x gm (fun e => hne.2.1 e.symm)))
      have hcs : ∀ j, j < n → cs'[j]? = (match f j with | some v => if keep.getD (rankS d.wait j) false then some v else cs[j]? | none => cs[j]?) := fun j hj => by
        rw [hM.2 j hj]
        rcases hf j hj with ⟨e, _⟩ | ⟨u, l2, e, ew, _⟩
        · rw [e]
        · rw [e]
          dsimp only
          rw [show decide (rankS d.wait j < d.pending.length) = true from decide_eq_true (rank_lt d.wait 0 j l2 ew), Bool.true_and]
          cases keep.getD (rankS d.wait j) false <;> rfl
      go_end0
      exact ⟨rfl, h.crashed (hbB _ _) hf hr keep (hB4 _ _) hcs (hmp _ _) ⟨hc1, hc2⟩ ((hb3.set_ 2 _).set_ 4 _), (But.of_gr _ hg1).trans (hbB _ _)⟩
end
end Go.Proofs.YtlbldmpiaebeeaaDoor
