/- Disks: New: sectors that are 0. -/
import Derived.Test.YtlbldmpiaebeeaaDoorDkO
namespace Go.Proofs.YtlbldmpiaebeeaaDoor
open Go Go.RowKit Go.Maps Go.MapKept Go.ChangeMaps

theorem rd_blkD {w : World} {gb size : Nat} {T : TypeId} {ar : Array Value} (hB : Blk w gb T ar) (hs : ar.size = size) : Reads w w.heap.size size (some ⟨gb, 0, none⟩) 1 ar.toList := by
  refine ⟨by simp [hs], fun _ => ⟨_, rfl, hB.lt, fun j u hu => ?_⟩⟩
  rw [addrD, hB.cell j, ← Array.getElem?_toList, hu]
theorem bytD_info : (Tryd.prog.info? 22).map (fun i => (i.zero, i.size, i.bytes)) = some (some (.slice none 0 0), 1, 24) := by kernel_rfl
/-- A row of bytes is appended. -/
theorem wpList_appendD {ops : Array Oper} {rest : List Oper} {o : Oper} {a : Act} {Q : Exit → Act → World → Prop} (w : World) (hgd : o.guard = none) (s y : Operand)
    (ho : o.op = .call { callee := .builtin .append, args := #[s, y], argTypes := #[48, 48] }) (base : Nat) (v : Value) (n : Nat) (xs : List Value) (hs : a.eval s = v) (hown : w.ownsRow base 22 1 v n xs)
    (gb : Nat) (u : Value) (hx : a.eval y = .slice (some ⟨gb, 0, none⟩) 1 1) (hB : Blk w gb 22 #[u]) (hu1 : u.oneCell' = true) (hn : n ≤ 100000) (hbase : base ≤ w.heap.size)
    (h : ∀ v' w', w'.ownsRow base 22 1 v' (n + 1) (xs ++ [u]) → w.grownBy w' v.ownBlock → (v'.ownBlock = v.ownBlock ∨ v'.ownBlock = some w.heap.size) → wpList Tryd.prog ops Q rest (a.put o.dst v') w') : wpList Tryd.prog ops Q (o :: rest) a w := by
  have hu := bytD_info
  cases hi : Tryd.prog.info? 22 with
  | none => rw [hi] at hu; cases hu
  | some i =>
    rw [hi] at hu
    simp only [Option.map_some, Option.some.injEq, Prod.mk.injEq] at hu
    obtain ⟨hz, hsz, hb⟩ := hu
    refine wpList_append_any (P := Tryd.prog) w hgd s y 48 ho base 22 i _ 1 24 (by kernel_rfl) hi hz hsz hb rfl (by omega) v n xs hs hown w.heap.size _ 1 1 _ hx (rd_blkD hB rfl) ?_ (by unfold maxLen; omega) (by omega) hbase h
    intro q hq
    obtain rfl : q = u := by simpa using hq
    exact hu1
/-- A sector that was just made. -/
def SecZ (w : World) (base : Nat) (v : Value) : Prop := ∃ b, v = .slice (some ⟨b, 0, none⟩) 256 256 ∧ Blk w b 5 (fillS 0 0) ∧ base ≤ b
theorem SecZ.gr {w w' : World} {base : Nat} {v : Value} (h : SecZ w base v) (hg : Gr w w') : SecZ w' base v := by
  obtain ⟨b, e, hb, h2⟩ := h
  exact ⟨b, e, hb.below hg hb.lt, h2⟩
theorem SecZ.own {w w' : World} {base base' n : Nat} {v u : Value} {xs : List Value} (h : SecZ w base v) (hw : w.ownsRow base' 22 1 u n xs) (hg : w.grownBy w' u.ownBlock) : SecZ w' base v := by
  obtain ⟨b, e, hb, h2⟩ := h
  exact ⟨b, e, hb.grown hg fun e2 => own_blk_ne hw hb (by decide) e2.symm, h2⟩
theorem SecZ.far {w : World} {base g i : Nat} {v u : Value} {cs : Array Value} (h : SecZ w base v) (hw : Blk w g 61 cs) : SecZ (w.setCell ⟨g, i, none⟩ u) base v := by
  obtain ⟨b, e, hb, h2⟩ := h
  exact ⟨b, e, hb.far (p := ⟨g, i, none⟩) (hb.ne_ hw (by decide)) u, h2⟩
theorem own_farD {w : World} {base g i n : Nat} {v u : Value} {xs : List Value} {cs : Array Value} (h : w.ownsRow base 22 1 v n xs) (hw : Blk w g 61 cs) : (w.setCell ⟨g, i, none⟩ u).ownsRow base 22 1 v n xs := by
  have hn := own_blk_ne h hw (by decide)
  refine ⟨h.1, ?_⟩
  rcases h.2 with h0 | ⟨gb, cap, cur, e1, e2, e3, e4⟩
  · exact .inl h0
  · refine .inr ⟨gb, cap, cur, e1, e2, ?_, e4⟩
    rw [Below.heap_setCell w ⟨g, i, none⟩ u gb (fun e => hn (by rw [e1]; show some gb = some g; rw [e]))]
    exact e3
/-- A disk that is being made: what does not turn with its row. -/
structure MkR (w0 : World) (g gm : Nat) (v0 : Value) (vs : List Value) (w : World) : Prop where
  top : Blk w g 61 #[v0, .map (some gm), .int .i64 (-1), .int .i64 0, .bool false]
  secs : ∀ v ∈ vs, SecZ w (w0.heap.size + 2) v
  map : w.ownsMap Tryd.prog 3 heldW gm 0 (.map [] : DataW Value)
  below : Below w0.heap.size w0 w
  size : w0.heap.size + 2 ≤ w.heap.size
section
variable {w0 w w' : World} {g gm k : Nat} {v0 : Value} {vs : List Value}
theorem map_blk_ne {t : TypeId} {cs : Array Value} (h : w.ownsMap Tryd.prog 3 heldW gm 0 (.map [] : DataW Value)) (hb : Blk w g t cs) : gm ≠ g := by
  rintro rfl
  obtain ⟨es, clock, h1, _⟩ := h
  unfold Blk at hb
  rw [h1] at hb
  cases hb
theorem MkR.gr (h : MkR w0 g gm v0 vs w) (hg : Gr w w') : MkR w0 g gm v0 vs w' :=
  ⟨h.top.below hg h.top.lt, fun v hv => (h.secs v hv).gr hg, own_grD h.map hg, Below.trans h.below (Below.mono hg (Nat.le_trans (Nat.le_add_right _ 2) h.size)), Nat.le_trans h.size hg.size⟩
theorem MkR.own {n : Nat} {u : Value} {xs : List Value} (h : MkR w0 g gm v0 vs w) (hw : w.ownsRow (w0.heap.size + 2) 22 1 u n xs) (hg : w.grownBy w' u.ownBlock) : MkR w0 g gm v0 vs w' := by
  refine ⟨h.top.grown hg fun e2 => own_blk_ne hw h.top (by decide) e2.symm, fun v hv => (h.secs v hv).own hw hg, ?_, ?_, Nat.le_trans h.size hg.size⟩
  · refine World.ownsMap.kept h.map hg fun e => ?_
    rcases hw.2 with ⟨rfl, _⟩ | ⟨gb, cap, cur, rfl, _, e3, _⟩
    · simp [Value.ownBlock] at e
    · have e : gm = gb := by simpa [Value.ownBlock] using e
      exact map_blk_ne h.map (g := gb) (t := 22) (cs := cur) e3 e
  · refine h.below.grown hg (Nat.le_trans (Nat.le_add_right _ 2) h.size) fun j hj => ?_
    rcases hw.2 with ⟨rfl, _⟩ | ⟨gb, cap, cur, rfl, e2, _⟩
    · simp [Value.ownBlock] at hj
    · have : gb = j := by simpa [Value.ownBlock] using hj
      omega
theorem MkR.set_ (h : MkR w0 g gm v0 vs w) (hg : w0.heap.size ≤ g) (u : Value) : MkR w0 g gm u vs (w.setCell ⟨g, 0, none⟩ u) :=
  ⟨h.top.set_ 0 u, fun v hv => (h.secs v hv).far h.top, World.ownsMap.setCell h.map (a := ⟨g, 0, none⟩) (map_blk_ne h.map h.top) u, Below.setCell h.below hg u, by rw [show (w.setCell ⟨g, 0, none⟩ u).heap.size = w.heap.size by simp [World.setCell]]; exact h.size⟩
end
theorem new_end {w wr : World} {n : Nat} {v0 : Value} {vs : List Value} (hn : 1 ≤ n) (hn2 : n ≤ 1024) (hown : wr.ownsRow (w.heap.size + 2) 22 1 v0 n vs) (hM : MkR w (w.heap.size + 1) w.heap.size v0 vs wr) :
    ∃ g gs gm K, Ending.returned (.tuple #[.pointer (some ⟨w.heap.size + 1, 0, none⟩), .int .i64 0]) = .returned (.tuple #[.pointer (some ⟨g, 0, none⟩), .int .i64 0]) ∧ DkAt wr K g gs gm n 0 (Dk.new n) ∧ (∀ b, DkS g gs gm b ∨ K b → w.heap.size ≤ b) ∧ Gr w wr := by
  rcases hown.2 with ⟨_, h0⟩ | ⟨gs, cap, cur, rfl, hge, hgb, r1, r2, r3, r4⟩
  · omega
  have hB : Blk wr gs 22 cur := hgb
  have hvl : vs.length = n := by have := hown.1; omega
  have hne1 : w.heap.size + 1 ≠ gs := by omega
  have hsz : ∀ i l, (Dk.new n).safe[i]? = some l → i < n ∧ l = fullS 0 := fun i l hl => by
    unfold Dk.new at hl
    dsimp only at hl
    rw [List.getElem?_replicate] at hl
    split at hl
    · injection hl with hl
      exact ⟨by assumption, hl.symm⟩
    · cases hl
  refine ⟨w.heap.size + 1, gs, w.heap.size, fun b => w.heap.size + 2 ≤ b ∧ ∃ cs, Blk wr b 5 cs, rfl, ⟨?_, ⟨hne1, by omega, by omega⟩, ⟨by unfold Dk.new; exact List.length_replicate, by unfold Dk.new; exact List.length_replicate, hn2⟩, ⟨Int.le_refl _, by show (-1 : Int) ≤ 9223372036854775807; decide⟩, ⟨cap, 0, r1, r2, hM.top⟩, ⟨cur, hB, fun i l hl => ?_⟩, ⟨fun _ => none, MapI.empty hM.map n, fun i hi => .inl ⟨rfl, ?_⟩⟩⟩, ?_, hM.below⟩
  · rintro b ⟨hb, cs, hbk⟩
    refine ⟨hbk.lt, ?_⟩
    rintro (rfl | rfl | rfl)
    · omega
    · exact hbk.ne_ hB (by decide) rfl
    · omega
  · obtain ⟨hi, rfl⟩ := hsz i l hl
    have hv : vs[i]? = some vs[i] := List.getElem?_eq_getElem (by omega)
    obtain ⟨b, e, hbk, hb2⟩ := hM.secs vs[i] (List.getElem_mem _)
    have hc : cur[i]? = some vs[i] := by
      rw [← Array.getElem?_toList, ← hv, ← r4, List.getElem?_take, if_pos (by omega)]
    refine ⟨vs[i], hc, ?_⟩
    rw [e]
    refine ⟨_, _, by rw [fullS_len], by rw [fullS_len]; exact Nat.le_refl _, by rw [bvs_length]; omega, fun _ => ⟨_, rfl, ⟨hb2, _, hbk⟩, fun j u hu => ?_⟩⟩
    rw [addrD, hbk.cell j, ← Array.getElem?_toList, ← hu]
    congr 1
  · unfold Dk.new
    dsimp only
    rw [List.getElem?_replicate, if_pos hi]
  · rintro b ((rfl | rfl | rfl) | ⟨hb, _⟩)
    · omega
    · omega
    · omega
    · omega
set_option maxRecDepth 100000 in
theorem dk_new_no (n : Int) (w : World) (hn : n < 1 ∨ 1024 < n) : Calls Tryd.prog 9 #[.int .i64 n] w fun e w' => e = .returned (.tuple #[.pointer none, .int .i64 1]) ∧ w = w' := by
  rcases hn with h | h
  all_goals
    go_enter Tryd.func9, Tryd.ntmps9
    go_wp2
    all_goals (try (exfalso; omega))
    go_ret2
    exact ⟨rfl, rfl⟩
set_option maxRecDepth 100000 in
set_option maxHeartbeats 8000000 in
theorem dk_new (n : Nat) (w : World) (hn : 1 ≤ n) (hn2 : n ≤ 1024) : Calls Tryd.prog 9 #[.int .i64 n] w fun e w' => ∃ g gs gm K, e = .returned (.tuple #[.pointer (some ⟨g, 0, none⟩), .int .i64 0]) ∧ DkAt w' K g gs gm n 0 (Dk.new n) ∧ (∀ b, DkS g gs gm b ∨ K b → w.heap.size ≤ b) ∧ Gr w w' := by
  have hmk := make256
  have hmm := @run_makeMap Tryd.prog
  go_enter Tryd.func9, Tryd.ntmps9
  go_wp2
  all_goals (try (exfalso; omega))
  have hG : Gr w ((w.alloc (.map #[] 0)).alloc (.cells #[.slice none 0 0, .map (some w.heap.size), .int .i64 (-1), .int .i64 0, .bool false] 61)) := Gr.trans (Gr.alloc _ _) (Gr.alloc _ _)
  have hM0 : MkR w (w.heap.size + 1) w.heap.size (.slice none 0 0) [] ((w.alloc (.map #[] 0)).alloc (.cells #[.slice none 0 0, .map (some w.heap.size), .int .i64 (-1), .int .i64 0, .bool false] 61)) := by
    refine ⟨?_, fun v hv => absurd hv List.not_mem_nil, (World.ownsMap_made w _ _ _).alloc _, hG, by simp⟩
    have := Blk.new (w.alloc (.map #[] 0)) 61 #[.slice none 0 0, .map (some w.heap.size), .int .i64 (-1), .int .i64 0, .bool false]
    rwa [show (w.alloc (.map #[] 0)).heap.size = w.heap.size + 1 by simp] at this
  go_loopw [15] (fun v15 wr => ∃ (k : Nat) (v0 : Value) (vs : List Value), v15 = .int .i64 k ∧ k ≤ n ∧ wr.ownsRow (w.heap.size + 2) 22 1 v0 k vs ∧ MkR w (w.heap.size + 1) w.heap.size v0 vs wr) (fun v15 _ => n - (intOf v15).toNat)
  case atStart => exact ⟨0, _, [], rfl, Nat.zero_le _, ⟨rfl, .inl ⟨rfl, rfl⟩⟩, hM0⟩
  case round =>
    obtain ⟨k, v0, vs, rfl, hk, hown, hM⟩ := hrel
    clear hM0 hG
    by_cases hp : k < n
    · go_wp2
      let fS : Fact := ⟨fun u W => SecZ W (w.heap.size + 2) u, fun u W W' hp hg => hp.gr hg⟩
      let fB : Fact := ⟨fun u W => ∃ b x, u = .slice (some ⟨b, 0, none⟩) 1 1 ∧ Blk W b 22 #[x] ∧ SecZ W (w.heap.size + 2) x, fun u W W' ⟨b, x, e, hb, hx⟩ hg => ⟨b, x, e, hb.below hg hb.lt, hx.gr hg⟩⟩
      let fA : Fact := ⟨fun u W => ∃ x, W.ownsRow (w.heap.size + 2) 22 1 u (k + 1) (vs ++ [x]) ∧ SecZ W (w.heap.size + 2) x ∧ MkR w (w.heap.size + 1) w.heap.size v0 vs W, fun u W W' ⟨x, h1, h2, h3⟩ hg => ⟨x, ownsRow_gr h1 hg, h2.gr hg, h3.gr hg⟩⟩
      let fE : Fact := ⟨fun _ W => ∃ u x, W.ownsRow (w.heap.size + 2) 22 1 u (k + 1) (vs ++ [x]) ∧ MkR w (w.heap.size + 1) w.heap.size u (vs ++ [x]) W, fun _ W W' ⟨u, x, h1, h3⟩ hg => ⟨u, x, ownsRow_gr h1 hg, h3.gr hg⟩⟩
      refine wp_region_facts [.is (.pointer (some ⟨w.heap.size + 1, 0, none⟩)), .is (.pointer (some ⟨w.heap.size + 1, 0, none⟩)), .is (.pointer (some ⟨w.heap.size + 1, 0, none⟩)), .is (.pointer (some ⟨w.heap.size + 1, 0, none⟩)), .is v0, fS, fB, fA, .is (.pointer (some ⟨w.heap.size + 1, 0, none⟩)), .is (.pointer (some ⟨w.heap.size + 1, 0, none⟩)), fE]
        (fun W => W.ownsRow (w.heap.size + 2) 22 1 v0 k vs ∧ MkR w (w.heap.size + 1) w.heap.size v0 vs W) (fun q j => q == 7 && (j == 5 || j == 6) || q == 10 && (j == 5 || j == 6 || j == 7)) (fun q => q == 7 || q == 10) 0 (by kernel_rfl) rfl (by kernel_rfl) (by kernel_rfl) (Nat.zero_le _) ⟨ownsRow_gr hown (Gr.drew _), hM.gr (Gr.drew _)⟩ (fun vals => by simp [fillA, dstsOf, go_sem]; rfl) ?_ ?_
      · intro q hq
        replace hq : q < 11 := hq
        have hI : ∀ W W', (W.ownsRow (w.heap.size + 2) 22 1 v0 k vs ∧ MkR w (w.heap.size + 1) w.heap.size v0 vs W) → Gr W W' → (W'.ownsRow (w.heap.size + 2) 22 1 v0 k vs ∧ MkR w (w.heap.size + 1) w.heap.size v0 vs W') := fun W W' hp hg => ⟨ownsRow_gr hp.1 hg, hp.2.gr hg⟩
        have hkeep : ∀ (vals : Nat → Value) (W W' : World), ∀ j ∈ [0, 1, 2, 3, 4, 8, 9], ∀ f : Fact, ([.is (.pointer (some ⟨w.heap.size + 1, 0, none⟩)), .is (.pointer (some ⟨w.heap.size + 1, 0, none⟩)), .is (.pointer (some ⟨w.heap.size + 1, 0, none⟩)), .is (.pointer (some ⟨w.heap.size + 1, 0, none⟩)), .is v0, fS, fB, fA, .is (.pointer (some ⟨w.heap.size + 1, 0, none⟩)), .is (.pointer (some ⟨w.heap.size + 1, 0, none⟩)), fE] : List Fact)[j]? = some f → f.p (vals j) W → f.p (vals j) W' := fun vals W W' j hj f hf hp => by
          simp only [List.mem_cons, List.not_mem_nil, or_false] at hj
          rcases hj with rfl | rfl | rfl | rfl | rfl | rfl | rfl <;> (cases hf; exact hp)
        rcases (by omega : q = 0 ∨ q = 1 ∨ q = 2 ∨ q = 3 ∨ q = 4 ∨ q = 5 ∨ q = 6 ∨ q = 7 ∨ q = 8 ∨ q = 9 ∨ q = 10) with rfl | rfl | rfl | rfl | rfl | rfl | rfl | rfl | rfl | rfl | rfl
        · refine step_g 0 [] _ _ rfl rfl hI (by kernel_rfl) fun vals W hb_ hB_ hIw hd => ?_
          go_wp2
          exact ⟨rfl, _, rfl, Gr.refl _, rfl⟩
        · refine step_g 1 [] _ _ rfl rfl hI (by kernel_rfl) fun vals W hb_ hB_ hIw hd => ?_
          go_wp2
          exact ⟨rfl, _, rfl, Gr.refl _, rfl⟩
        · refine step_g 2 [1] _ _ rfl rfl hI (by kernel_rfl) fun vals W hb_ hB_ hIw hd => ?_
          have e1 : vals 1 = _ := hd 1 (by simp) _ rfl
          rw [e1]
          go_wp2
          exact ⟨rfl, _, rfl, Gr.refl _, rfl⟩
        · refine step_g 3 [2] _ _ rfl rfl hI (by kernel_rfl) fun vals W hb_ hB_ hIw hd => ?_
          have e2 : vals 2 = _ := hd 2 (by simp) _ rfl
          rw [e2]
          go_wp2
          exact ⟨rfl, _, rfl, Gr.refl _, rfl⟩
        · refine step_g 4 [3] _ _ rfl rfl hI (by kernel_rfl) fun vals W hb_ hB_ hIw hd => ?_
          have e3 : vals 3 = _ := hd 3 (by simp) _ rfl
          rw [e3]
          obtain ⟨_, hMW⟩ := hIw (by kernel_rfl)
          obtain ⟨⟨q0, q1, q2, q3, q4⟩, _⟩ := five_dk hMW.top
          go_wp2
          exact ⟨rfl, _, rfl, Gr.refl _, rfl⟩
        · refine step_g 5 [] _ _ rfl rfl hI (by kernel_rfl) fun vals W hb_ hB_ hIw hd => ?_
          obtain ⟨_, hMW⟩ := hIw (by kernel_rfl)
          go_wp2
          exact ⟨rfl, _, rfl, Gr.alloc _ _, ⟨W.heap.size, rfl, Blk.new W _ _, hMW.size⟩⟩
        · refine step_g 6 [5] _ _ rfl rfl hI (by kernel_rfl) fun vals W hb_ hB_ hIw hd => ?_
          obtain ⟨b, e5, hb5, hb52⟩ := (show SecZ W (w.heap.size + 2) (vals 5) from hd 5 (by simp) _ rfl)
          rw [e5]
          go_wp2
          exact ⟨rfl, _, rfl, Gr.alloc _ _, ⟨W.heap.size, _, rfl, Blk.new W _ _, SecZ.gr ⟨b, rfl, hb5, hb52⟩ (Gr.alloc _ _)⟩⟩
        · refine step_s 7 [4, 6] [0, 1, 2, 3, 4, 8, 9] _ _ rfl rfl (by kernel_rfl) (by kernel_rfl) fun vals W hb_ hB_ hIw hd => ?_
          have e4 : vals 4 = _ := hd 4 (by simp) _ rfl
          obtain ⟨b2, x, e6, hb6, hx⟩ := (show ∃ b x, vals 6 = .slice (some ⟨b, 0, none⟩) 1 1 ∧ Blk W b 22 #[x] ∧ SecZ W (w.heap.size + 2) x from hd 6 (by simp) _ rfl)
          obtain ⟨hownW, hMW⟩ := hIw (by kernel_rfl)
          rw [e4, e6]
          obtain ⟨b, ex, hbx, hbx2⟩ := id hx
          refine wpList_appendD W rfl _ _ rfl (w.heap.size + 2) v0 k vs rfl hownW b2 x rfl hb6 (by rw [ex]; rfl) (by omega) hMW.size fun u w2 ho2 hg2 ha2 => wpList_nil ?_
          exact ⟨rfl, _, rfl, ⟨hg2.os, hg2.tape, hg2.output, hg2.size, fun q hq => absurd hq (Nat.not_lt_zero q)⟩, ⟨x, ho2, hx.own hownW hg2, hMW.own hownW hg2⟩, fun h _ => absurd h (by decide), hkeep vals W w2⟩
        · refine step_g 8 [0] _ _ rfl rfl hI (by kernel_rfl) fun vals W hb_ hB_ hIw hd => ?_
          have e0 : vals 0 = _ := hd 0 (by simp) _ rfl
          rw [e0]
          go_wp2
          exact ⟨rfl, _, rfl, Gr.refl _, rfl⟩
        · refine step_g 9 [8] _ _ rfl rfl hI (by kernel_rfl) fun vals W hb_ hB_ hIw hd => ?_
          have e8 : vals 8 = _ := hd 8 (by simp) _ rfl
          rw [e8]
          go_wp2
          exact ⟨rfl, _, rfl, Gr.refl _, rfl⟩
        · refine step_s 10 [7, 9] [0, 1, 2, 3, 4, 8, 9] _ _ rfl rfl (by kernel_rfl) (by kernel_rfl) fun vals W hb_ hB_ hIw hd => ?_
          obtain ⟨x, ho, hx, hMW⟩ := (show ∃ x, W.ownsRow (w.heap.size + 2) 22 1 (vals 7) (k + 1) (vs ++ [x]) ∧ SecZ W (w.heap.size + 2) x ∧ MkR w (w.heap.size + 1) w.heap.size v0 vs W from hd 7 (by simp) _ rfl)
          have e9 : vals 9 = _ := hd 9 (by simp) _ rfl
          rw [e9]
          obtain ⟨uA, uc, eu, _, _⟩ := own_formD ho
          rw [eu] at ho ⊢
          obtain ⟨⟨q0, q1, q2, q3, q4⟩, f0, _⟩ := five_dk hMW.top
          have hM2 := (MkR.set_ (vs := vs ++ [x]) ⟨hMW.top, fun v hv => (List.mem_append.1 hv).elim (hMW.secs v) fun h1 => by rw [List.mem_singleton.1 h1]; exact hx, hMW.map, hMW.below, hMW.size⟩ (Nat.le_succ _) (.slice uA (k + 1) uc))
          have ho2 := own_farD (i := 0) (u := .slice uA (k + 1) uc) ho hMW.top
          go_wp2
          exact ⟨rfl, undef, rfl, ⟨rfl, rfl, rfl, by simp [World.setCell], fun k hk => absurd hk (Nat.not_lt_zero k)⟩, ⟨_, x, ho2, hM2⟩, fun h _ => absurd h (by decide), hkeep vals W _⟩
      · intro vals W3 hb3 hfs
        obtain ⟨u, x, ho3, hM3⟩ := (show ∃ u x, W3.ownsRow (w.heap.size + 2) 22 1 u (k + 1) (vs ++ [x]) ∧ MkR w (w.heap.size + 1) w.heap.size u (vs ++ [x]) W3 from hfs 10 _ rfl (fun k hk => by simp))
        go_wp2
        go_roundw
        case rel => exact ⟨k + 1, u, _, by go_num, by omega, ho3, hM3⟩
        case measure => simp [intOf]; omega
    · obtain rfl : k = n := by omega
      go_wp2
      go_ret2
      exact new_end hn hn2 hown hM
end Go.Proofs.YtlbldmpiaebeeaaDoor
