/- Answers: one that grows: rows of the call's own; the program's put. Printed by wip/tools/genwqn.py. Answers: what Parse makes of a text: plain laws; Split. Answers: the program's Parse. Printed by wip/tools/genwqp.py. -/
import Derived.Test.YtppnlijeonneeaaDoorPkH
import Derived.Test.YtppnlijeonneeaaDoorPkD
namespace Go.Proofs.YtppnlijeonneeaaDoor
open Go Go.RowKit Go.Sort

theorem wa_tail (c : UInt8) (t : List UInt8) : (wa (c :: t)).extract 1 (wa (c :: t)).size = wa t := by
  have h : ((wa (c :: t)).extract 1 (wa (c :: t)).size).data.toList = t := by
    rw [ByteArray.data_extract, Array.toList_extract, wa_size]
    simp [wa, List.extract]
  rw [← data_wa ((wa (c :: t)).extract 1 (wa (c :: t)).size), h]
theorem own_formV {w : World} {base e size n : Nat} {v : Value} {xs : List Value} (h : w.ownsRow base e size v n xs) : ∃ A c, v = .slice A n c ∧ n ≤ c ∧ c ≤ maxLen := by
  rcases h.2 with ⟨rfl, h0⟩ | ⟨g, cap, cur, rfl, e2, e3, e4, e5, _⟩
  · exact ⟨none, 0, by rw [h0], by omega, Nat.zero_le _⟩
  · exact ⟨_, _, rfl, e4, e5⟩
/-- Two slices lie in two blocks. -/
def disV (u v : Value) : Prop := ∀ b, u.ownBlock = some b → v.ownBlock ≠ some b
theorem disV.sw {u v : Value} (h : disV u v) : disV v u := fun b hb hu => h b hu hb
theorem own_ltV {w : World} {base e size n : Nat} {v : Value} {xs : List Value} (h : w.ownsRow base e size v n xs) (b : Nat) (hb : v.ownBlock = some b) : b < w.heap.size := by
  rcases Nat.lt_or_ge b w.heap.size with h1 | h1
  · exact h1
  · exact absurd hb (own_ltW h b h1)
theorem own_geV {w : World} {base e size n : Nat} {v : Value} {xs : List Value} (h : w.ownsRow base e size v n xs) (b : Nat) (hb : v.ownBlock = some b) : base ≤ b := by
  rcases h.2 with ⟨rfl, _⟩ | ⟨g, cap, cur, rfl, e2, _⟩
  · simp [Value.ownBlock] at hb
  · simp [Value.ownBlock] at hb
    omega
theorem own_keepV {w w' : World} {base e size n : Nat} {u v : Value} {xs : List Value} (h : w.ownsRow base e size v n xs) (hg : w.grownBy w' u.ownBlock) (hd : disV u v) : w'.ownsRow base e size v n xs := by
  refine ⟨h.1, ?_⟩
  rcases h.2 with h0 | ⟨g, cap, cur, e1, e2, e3, e4⟩
  · exact .inl h0
  · refine .inr ⟨g, cap, cur, e1, e2, ?_, e4⟩
    rw [hg.block g (Array.getElem?_eq_some_iff.1 e3).1 (fun e => hd g e.symm (by rw [e1]; rfl))]
    exact e3
theorem dis_nextV {w : World} {base e size n : Nat} {u u' v : Value} {xs : List Value} (hd : disV u v) (hu : u'.ownBlock = u.ownBlock ∨ u'.ownBlock = some w.heap.size) (hv : w.ownsRow base e size v n xs) : disV u' v := by
  intro b hb hv2
  rcases hu with h | h
  · exact hd b (h ▸ hb) hv2
  · rw [h] at hb
    injection hb with hb
    have := own_ltV hv b hv2
    omega
/-- The blocks in which an answer's rows of bytes lie. -/
abbrev KP (base : Nat) (w : World) (v1 v2 v3 : Value) (b : Nat) : Prop := base ≤ b ∧ b < w.heap.size ∧ v1.ownBlock ≠ some b ∧ v2.ownBlock ≠ some b ∧ v3.ownBlock ≠ some b
/-- An answer's rows. -/
structure PRows (base : Nat) (r : Rep) (v1 v2 v3 : Value) (cs : List Value) (w : World) : Prop where
  row1 : w.ownsRow base 9 1 v1 r.nms.length (r.nms.map Value.string)
  row2 : w.ownsRow base 9 1 v2 r.held.length (r.held.map Value.string)
  row3 : w.ownsRow base 49 1 v3 r.lst.length cs
  mem : RkLs w (KP base w v1 v2 v3) r.lst cs
  d12 : disV v1 v2
  d13 : disV v1 v3
  d23 : disV v2 v3
theorem PRows.gr {base : Nat} {r : Rep} {v1 v2 v3 : Value} {cs : List Value} {w w' : World} (h : PRows base r v1 v2 v3 cs w) (hg : Gr w w') : PRows base r v1 v2 v3 cs w' :=
  ⟨ownsRow_gr h.row1 hg, ownsRow_gr h.row2 hg, ownsRow_gr h.row3 hg, RkLs.mono (fun _ hb => ⟨hb.1, Nat.lt_of_lt_of_le hb.2.1 hg.size, hb.2.2⟩) _ _ (RkLs.keep (fun _ hp => hg.cell hp.2.1) _ _ h.mem), h.d12, h.d13, h.d23⟩
theorem PRows.x {base g : Nat} {r : Rep} {v1 v2 v3 : Value} {cs : List Value} {w w' : World} (h : PRows base r v1 v2 v3 cs w) (hx : GrX w w' g) (hn : g < base) : PRows base r v1 v2 v3 cs w' :=
  ⟨own_xW h.row1 hx hn, own_xW h.row2 hx hn, own_xW h.row3 hx hn, RkLs.mono (fun _ hb => ⟨hb.1, Nat.lt_of_lt_of_le hb.2.1 hx.size, hb.2.2⟩) _ _ (RkLs.keep (fun p hp => grx_cell hx hp.2.1 (by have := hp.1; omega)) _ _ h.mem), h.d12, h.d13, h.d23⟩
theorem PRows.far {base g i : Nat} {r : Rep} {v1 v2 v3 : Value} {cs : List Value} {w : World} (h : PRows base r v1 v2 v3 cs w) (hn : g < base) (u : Value) : PRows base r v1 v2 v3 cs (w.setCell ⟨g, i, none⟩ u) :=
  h.x (g := g) (GrX.set_ (World.grownBy.refl _ _) i u) hn
theorem PRows.hd {base : Nat} {er n er' n' : Int} {a b : List ByteArray} {l : List (List UInt8)} {v1 v2 v3 : Value} {cs : List Value} {w : World} (h : PRows base ⟨er, n, a, b, l⟩ v1 v2 v3 cs w) : PRows base ⟨er', n', a, b, l⟩ v1 v2 v3 cs w := ⟨h.row1, h.row2, h.row3, h.mem, h.d12, h.d13, h.d23⟩
theorem PRows.nil (base : Nat) (er n : Int) (w : World) : PRows base ⟨er, n, [], [], []⟩ (.slice none 0 0) (.slice none 0 0) (.slice none 0 0) [] w :=
  ⟨⟨rfl, .inl ⟨rfl, rfl⟩⟩, ⟨rfl, .inl ⟨rfl, rfl⟩⟩, ⟨rfl, .inl ⟨rfl, rfl⟩⟩, rfl, fun b hb => by simp [Value.ownBlock] at hb, fun b hb => by simp [Value.ownBlock] at hb, fun b hb => by simp [Value.ownBlock] at hb⟩
theorem RkLs.snocW {w : World} {K : Nat → Prop} {x : List UInt8} {v : Value} (hx : RkB w K v x) : ∀ (l : List (List UInt8)) (vs : List Value), RkLs w K l vs → RkLs w K (l ++ [x]) (vs ++ [v])
  | [], vs, h => by
    obtain rfl : vs = [] := h
    exact ⟨v, [], rfl, hx, rfl⟩
  | b :: l, vs, h => by
    obtain ⟨u, r, rfl, h1, h2⟩ := h
    exact ⟨u, r ++ [v], rfl, h1, RkLs.snocW hx l r h2⟩
theorem keep_own {w w' : World} {u : Value} (hg : w.grownBy w' u.ownBlock) {p : Addr} (hp : p.block < w.heap.size) (hn : u.ownBlock ≠ some p.block) : w'.cell? p = w.cell? p := World.cell?_of_block (hg.block p.block hp (fun e => hn e.symm))
theorem new_own {w w' : World} {u u' : Value} (_hg : w.grownBy w' u.ownBlock) (hu : u'.ownBlock = u.ownBlock ∨ u'.ownBlock = some w.heap.size) {b : Nat} (hb : b < w.heap.size) (hn : u.ownBlock ≠ some b) : u'.ownBlock ≠ some b := by
  rcases hu with e | e
  · rw [e]; exact hn
  · rw [e]; intro e2; injection e2 with e2; omega
theorem PRows.app1 {base : Nat} {r : Rep} {v1 v2 v3 v1' : Value} {cs : List Value} {w w' : World} {t : ByteArray} (h : PRows base r v1 v2 v3 cs w) (hg : w.grownBy w' v1.ownBlock) (ha : v1'.ownBlock = v1.ownBlock ∨ v1'.ownBlock = some w.heap.size)
    (hr : w'.ownsRow base 9 1 v1' (r.nms ++ [t]).length ((r.nms ++ [t]).map Value.string)) : PRows base { r with nms := r.nms ++ [t] } v1' v2 v3 cs w' :=
  ⟨hr, own_keepV h.row2 hg h.d12, own_keepV h.row3 hg h.d13, RkLs.mono (fun _ hb => ⟨hb.1, Nat.lt_of_lt_of_le hb.2.1 hg.size, new_own hg ha hb.2.1 hb.2.2.1, hb.2.2.2⟩) _ _ (RkLs.keep (fun _ hp => keep_own hg hp.2.1 hp.2.2.1) _ _ h.mem), dis_nextV h.d12 ha h.row2, dis_nextV h.d13 ha h.row3, h.d23⟩
theorem PRows.app2 {base : Nat} {r : Rep} {v1 v2 v3 v2' : Value} {cs : List Value} {w w' : World} {t : ByteArray} (h : PRows base r v1 v2 v3 cs w) (hg : w.grownBy w' v2.ownBlock) (ha : v2'.ownBlock = v2.ownBlock ∨ v2'.ownBlock = some w.heap.size)
    (hr : w'.ownsRow base 9 1 v2' (r.held ++ [t]).length ((r.held ++ [t]).map Value.string)) : PRows base { r with held := r.held ++ [t] } v1 v2' v3 cs w' :=
  ⟨own_keepV h.row1 hg h.d12.sw, hr, own_keepV h.row3 hg h.d23, RkLs.mono (fun _ hb => ⟨hb.1, Nat.lt_of_lt_of_le hb.2.1 hg.size, hb.2.2.1, new_own hg ha hb.2.1 hb.2.2.2.1, hb.2.2.2.2⟩) _ _ (RkLs.keep (fun _ hp => keep_own hg hp.2.1 hp.2.2.2.1) _ _ h.mem), (dis_nextV h.d12.sw ha h.row1).sw, h.d13, dis_nextV h.d23 ha h.row3⟩
theorem PRows.app3 {base : Nat} {r : Rep} {v1 v2 v3 v3' u : Value} {cs : List Value} {w w' : World} {x : List UInt8} (h : PRows base r v1 v2 v3 cs w) (hg : w.grownBy w' v3.ownBlock) (ha : v3'.ownBlock = v3.ownBlock ∨ v3'.ownBlock = some w.heap.size)
    (hr : w'.ownsRow base 49 1 v3' (r.lst ++ [x]).length (cs ++ [u])) (hu : RkB w (KP base w v1 v2 v3) u x) : PRows base { r with lst := r.lst ++ [x] } v1 v2 v3' (cs ++ [u]) w' :=
  ⟨own_keepV h.row1 hg h.d13.sw, own_keepV h.row2 hg h.d23.sw, hr, RkLs.mono (fun _ hb => ⟨hb.1, Nat.lt_of_lt_of_le hb.2.1 hg.size, hb.2.2.1, hb.2.2.2.1, new_own hg ha hb.2.1 hb.2.2.2.2⟩) _ _ (RkLs.keep (fun _ hp => keep_own hg hp.2.1 hp.2.2.2.2) _ _ (RkLs.snocW hu _ _ h.mem)), h.d12, (dis_nextV h.d13.sw ha h.row1).sw, (dis_nextV h.d23.sw ha h.row2).sw⟩
theorem own_rkB {w : World} {base : Nat} {v : Value} {l : List UInt8} (h : OwnB w base v l) : RkB w (fun b => base ≤ b ∧ b < w.heap.size) v l := by
  rcases h.2 with ⟨rfl, h0⟩ | ⟨g, cap, cur, rfl, e2, e3, e4, e5⟩
  · obtain rfl := List.eq_nil_of_length_eq_zero h0
    exact RkB.nil _ _
  · exact ⟨some ⟨g, 0, none⟩, cap, rfl, e4, by simp [bvs], fun _ => ⟨_, rfl, ⟨e2, (Array.getElem?_eq_some_iff.1 e3).1⟩, World.ownsRow.cells h rfl⟩⟩
theorem strO_info : (Tryd.prog.info? 9).map (fun i => (i.zero, i.size, i.bytes)) = some (some (.string ⟨#[]⟩), 1, 16) := by kernel_rfl
theorem bytO_info : (Tryd.prog.info? 49).map (fun i => (i.zero, i.size, i.bytes)) = some (some (.slice none 0 0), 1, 24) := by kernel_rfl
/-- A string is appended. -/
theorem wpList_appendS {ops : Array Oper} {rest : List Oper} {o : Oper} {a : Act} {Q : Exit → Act → World → Prop} (w : World) (hgd : o.guard = none) (s y : Operand)
    (ho : o.op = .call { callee := .builtin .append, args := #[s, y], argTypes := #[23, 23] }) (base : Nat) (v : Value) (n : Nat) (xs : List Value) (hs : a.eval s = v) (hown : w.ownsRow base 9 1 v n xs)
    (gb : Nat) (u : Value) (hx : a.eval y = .slice (some ⟨gb, 0, none⟩) 1 1) (hB : Blk w gb 9 #[u]) (hu1 : u.oneCell' = true) (hn : n ≤ 100000) (hbase : base ≤ w.heap.size)
    (h : ∀ v' w', w'.ownsRow base 9 1 v' (n + 1) (xs ++ [u]) → w.grownBy w' v.ownBlock → (v'.ownBlock = v.ownBlock ∨ v'.ownBlock = some w.heap.size) → wpList Tryd.prog ops Q rest (a.put o.dst v') w') : wpList Tryd.prog ops Q (o :: rest) a w := by
  have hu := strO_info
  cases hi : Tryd.prog.info? 9 with
  | none => rw [hi] at hu; cases hu
  | some i =>
    rw [hi] at hu
    simp only [Option.map_some, Option.some.injEq, Prod.mk.injEq] at hu
    obtain ⟨hz, hsz, hb⟩ := hu
    refine wpList_append_any (P := Tryd.prog) w hgd s y 23 ho base 9 i _ 1 16 (by kernel_rfl) hi hz hsz hb rfl (by omega) v n xs hs hown w.heap.size _ 1 1 _ hx (rd_blkW hB rfl) ?_ (by unfold maxLen; omega) (by omega) hbase h
    intro q hq
    obtain rfl : q = u := by simpa using hq
    exact hu1
/-- A row of bytes is appended. -/
theorem wpList_appendY {ops : Array Oper} {rest : List Oper} {o : Oper} {a : Act} {Q : Exit → Act → World → Prop} (w : World) (hgd : o.guard = none) (s y : Operand)
    (ho : o.op = .call { callee := .builtin .append, args := #[s, y], argTypes := #[24, 24] }) (base : Nat) (v : Value) (n : Nat) (xs : List Value) (hs : a.eval s = v) (hown : w.ownsRow base 49 1 v n xs)
    (gb : Nat) (u : Value) (hx : a.eval y = .slice (some ⟨gb, 0, none⟩) 1 1) (hB : Blk w gb 49 #[u]) (hu1 : u.oneCell' = true) (hn : n ≤ 100000) (hbase : base ≤ w.heap.size)
    (h : ∀ v' w', w'.ownsRow base 49 1 v' (n + 1) (xs ++ [u]) → w.grownBy w' v.ownBlock → (v'.ownBlock = v.ownBlock ∨ v'.ownBlock = some w.heap.size) → wpList Tryd.prog ops Q rest (a.put o.dst v') w') : wpList Tryd.prog ops Q (o :: rest) a w := by
  have hu := bytO_info
  cases hi : Tryd.prog.info? 49 with
  | none => rw [hi] at hu; cases hu
  | some i =>
    rw [hi] at hu
    simp only [Option.map_some, Option.some.injEq, Prod.mk.injEq] at hu
    obtain ⟨hz, hsz, hb⟩ := hu
    refine wpList_append_any (P := Tryd.prog) w hgd s y 24 ho base 49 i _ 1 24 (by kernel_rfl) hi hz hsz hb rfl (by omega) v n xs hs hown w.heap.size _ 1 1 _ hx (rd_blkW hB rfl) ?_ (by unfold maxLen; omega) (by omega) hbase h
    intro q hq
    obtain rfl : q = u := by simpa using hq
    exact hu1
/-- An answer that grows. -/
def POwn (base g : Nat) (r : Rep) (w : World) : Prop := g < base ∧ base ≤ w.heap.size ∧ ∃ v1 v2 v3 cs, Blk w g 26 #[.int .i64 r.err, .int .i64 r.n, v1, v2, v3] ∧ PRows base r v1 v2 v3 cs w
theorem POwn.gr {base g : Nat} {r : Rep} {w w' : World} (h : POwn base g r w) (hg : Gr w w') : POwn base g r w' := by
  obtain ⟨h1, h2, v1, v2, v3, cs, hB, hR⟩ := h
  exact ⟨h1, Nat.le_trans h2 hg.size, v1, v2, v3, cs, hB.below hg hB.lt, hR.gr hg⟩
theorem own_bel {w w' : World} {base e size n g : Nat} {v : Value} {xs : List Value} (h : w.ownsRow base e size v n xs) (hg : w.grownBy w' v.ownBlock) (hn : g ≤ base) (hs : base ≤ w.heap.size) : Below g w w' := (own_grW h hs hg).mono hn
theorem below_setG {g i : Nat} {a w : World} (h : Below g a w) (v : Value) : Below g a (w.setCell ⟨g, i, none⟩ v) :=
  ⟨h.os, h.tape, h.output, by simpa [World.setCell] using h.size, fun k hk => (Below.heap_setCell w ⟨g, i, none⟩ v k (by show k ≠ g; omega)).trans (h.block k hk)⟩
theorem size_setG (w : World) (p : Addr) (v : Value) : (w.setCell p v).heap.size = w.heap.size := by simp [World.setCell]
set_option maxRecDepth 100000 in
set_option maxHeartbeats 2000000 in
theorem put_no (l : List UInt8) (r : Rep) (g : Nat) (w : World) (hl : l.length ≤ 1000000) (hp : putP l r = none) : Calls Tryd.prog 26 #[.pointer (some ⟨g, 0, none⟩), .string (wa l)] w fun e w' => e = .returned (.bool false) ∧ w = w' := by
  cases l with
  | nil =>
    have hne : (wa ([] : List UInt8)).toList.isEmpty = true := by rw [ByteArray.toList_eq, wa_data]; rfl
    generalize wa ([] : List UInt8) = s at *
    go_enter Tryd.func26, Tryd.ntmps26
    go_wp2
    go_ret
    exact ⟨rfl, rfl⟩
  | cons c t =>
    have hc : c ≠ 43 ∧ c ≠ 33 ∧ c ≠ 61 := by
      refine ⟨?_, ?_, ?_⟩ <;> rintro rfl
      · rw [putP_1] at hp; cases hp
      · rw [putP_2] at hp; cases hp
      · rw [putP_3] at hp; cases hp
    have hsz : (wa (c :: t)).size = t.length + 1 := by rw [wa_size]; rfl
    have hne : (wa (c :: t)).toList.isEmpty = false := by rw [ByteArray.toList_eq, wa_data]; rfl
    have hg0 : ∀ (h : 0 < (wa (c :: t)).size), (wa (c :: t))[0]'h = c := fun h => rfl
    have hnm : ∀ k : Nat, k < 256 → c ≠ UInt8.ofNat k → ((c.toNat : Int) == (k : Int)) = false := by
      intro k hk hck
      rw [beq_eq_false_iff_ne]
      intro e
      exact hck (by rw [← UInt8.toNat_inj]; simp; omega)
    have e1 : ((c.toNat : Int) == 43) = false := hnm 43 (by omega) hc.1
    have e2 : ((c.toNat : Int) == 33) = false := hnm 33 (by omega) hc.2.1
    have e3 : ((c.toNat : Int) == 61) = false := hnm 61 (by omega) hc.2.2
    have hsl := wa_tail c t
    rw [hsz] at hsl
    simp only [List.length_cons] at hl
    generalize wa (c :: t) = s at *
    have f1 : 0 < s.size := by omega
    have hgx := hg0 f1
    clear hnm hp hc
    go_enter Tryd.func26, Tryd.ntmps26
    go_wp2
    all_goals (try (exfalso; omega))
    go_ret
    exact ⟨rfl, rfl⟩
set_option maxRecDepth 100000 in
set_option maxHeartbeats 4000000 in
theorem put_1 (t : List UInt8) (r : Rep) (base g : Nat) (w : World) (hl : t.length ≤ 1000000) (hr : POwn base g r w) (hn : r.nms.length ≤ 100000) : Calls Tryd.prog 26 #[.pointer (some ⟨g, 0, none⟩), .string (wa (43 :: t))] w fun e w' => e = .returned (.bool true) ∧ POwn base g { r with nms := r.nms ++ [wa t] } w' ∧ Below g w w' := by
  obtain ⟨hgb, hbs, v1, v2, v3, cs, hB, hR⟩ := hr
  have hsz : (wa (43 :: t)).size = t.length + 1 := by rw [wa_size]; rfl
  have hne : (wa (43 :: t)).toList.isEmpty = false := by rw [ByteArray.toList_eq, wa_data]; rfl
  have hsl := wa_tail 43 t
  rw [hsz] at hsl
  have hg0 : ∀ (h : 0 < (wa (43 :: t)).size), ((wa (43 :: t))[0]'h).toNat = 43 := fun h => rfl
  generalize wa (43 :: t) = s at *
  generalize wa t = tt at *
  have f1 : 0 < s.size := by omega
  have hgx := hg0 f1
  have g1 := Gr.alloc w (.cells #[.string tt] 9)
  have hB1 := hB.below g1 hB.lt
  have hR1 := hR.gr g1
  have hN1 := Blk.new w 9 #[.string tt]
  obtain ⟨s0, s1, s2, s3, s4⟩ := five_cells hB
  obtain ⟨b0, b1, b2, b3, b4⟩ := five_cells hB1
  go_enter Tryd.func26, Tryd.ntmps26
  go_wp2_with (at_builtin
               go_loud (refine wpList_appendS _ rfl (.tmp 18) (.tmp 20) rfl base v1 _ _ rfl hR1.row1 _ (.string tt) rfl hN1 rfl hn (Nat.le_trans hbs g1.size) ?_)
               intro v6 w6 hr6 hg6 ha6
               obtain ⟨A6, c6, hv6, -, -⟩ := own_formV hr6
               subst hv6
               have hR6 := hR1.app1 (t := tt) hg6 ha6 (by simpa using hr6)
               have hb6 := own_bel hR1.row1 hg6 (Nat.le_of_lt hgb) (Nat.le_trans hbs g1.size)
               have hB6 := hB1.grown hg6 (fun e => by have := own_geV hR1.row1 g e.symm; omega)
               obtain ⟨c0, c1, c2, c3, c4⟩ := five_cells hB6
               have hfr := hB6.frozen 2)
  all_goals (try (exfalso; omega))
  go_ret
  exact ⟨rfl, ⟨hgb, by rw [size_setG]; exact Nat.le_trans hbs (Nat.le_trans g1.size hb6.size), _, _, _, cs, hB6.set_ 2 _, hR6.far hgb _⟩, below_setG (Below.trans (g1.mono (Nat.le_of_lt hB.lt)) hb6) _⟩
set_option maxRecDepth 100000 in
set_option maxHeartbeats 4000000 in
theorem put_2 (t : List UInt8) (r : Rep) (base g : Nat) (w : World) (hl : t.length ≤ 1000000) (hr : POwn base g r w) (hn : r.held.length ≤ 100000) : Calls Tryd.prog 26 #[.pointer (some ⟨g, 0, none⟩), .string (wa (33 :: t))] w fun e w' => e = .returned (.bool true) ∧ POwn base g { r with held := r.held ++ [wa t] } w' ∧ Below g w w' := by
  obtain ⟨hgb, hbs, v1, v2, v3, cs, hB, hR⟩ := hr
  have hsz : (wa (33 :: t)).size = t.length + 1 := by rw [wa_size]; rfl
  have hne : (wa (33 :: t)).toList.isEmpty = false := by rw [ByteArray.toList_eq, wa_data]; rfl
  have hsl := wa_tail 33 t
  rw [hsz] at hsl
  have hg0 : ∀ (h : 0 < (wa (33 :: t)).size), ((wa (33 :: t))[0]'h).toNat = 33 := fun h => rfl
  generalize wa (33 :: t) = s at *
  generalize wa t = tt at *
  have f1 : 0 < s.size := by omega
  have hgx := hg0 f1
  have g1 := Gr.alloc w (.cells #[.string tt] 9)
  have hB1 := hB.below g1 hB.lt
  have hR1 := hR.gr g1
  have hN1 := Blk.new w 9 #[.string tt]
  obtain ⟨s0, s1, s2, s3, s4⟩ := five_cells hB
  obtain ⟨b0, b1, b2, b3, b4⟩ := five_cells hB1
  go_enter Tryd.func26, Tryd.ntmps26
  go_wp2_with (at_builtin
               go_loud (refine wpList_appendS _ rfl (.tmp 30) (.tmp 32) rfl base v2 _ _ rfl hR1.row2 _ (.string tt) rfl hN1 rfl hn (Nat.le_trans hbs g1.size) ?_)
               intro v6 w6 hr6 hg6 ha6
               obtain ⟨A6, c6, hv6, -, -⟩ := own_formV hr6
               subst hv6
               have hR6 := hR1.app2 (t := tt) hg6 ha6 (by simpa using hr6)
               have hb6 := own_bel hR1.row2 hg6 (Nat.le_of_lt hgb) (Nat.le_trans hbs g1.size)
               have hB6 := hB1.grown hg6 (fun e => by have := own_geV hR1.row2 g e.symm; omega)
               obtain ⟨c0, c1, c2, c3, c4⟩ := five_cells hB6
               have hfr := hB6.frozen 3)
  all_goals (try (exfalso; omega))
  go_ret
  exact ⟨rfl, ⟨hgb, by rw [size_setG]; exact Nat.le_trans hbs (Nat.le_trans g1.size hb6.size), _, _, _, cs, hB6.set_ 3 _, hR6.far hgb _⟩, below_setG (Below.trans (g1.mono (Nat.le_of_lt hB.lt)) hb6) _⟩
/-- The answer with one row of bytes more. -/
abbrev lstW (r : Rep) (x : List UInt8) : Rep := { r with lst := r.lst ++ [x] }
set_option maxRecDepth 100000 in
set_option maxHeartbeats 8000000 in
theorem put_3 (t : List UInt8) (r : Rep) (base g : Nat) (w : World) (hl : t.length ≤ 1000000) (hr : POwn base g r w) (hn : r.lst.length ≤ 100000) : Calls Tryd.prog 26 #[.pointer (some ⟨g, 0, none⟩), .string (wa (61 :: t))] w fun e w' => e = .returned (.bool true) ∧ POwn base g (lstW r (unhP t)) w' ∧ Below g w w' := by
  obtain ⟨hgb, hbs, v1, v2, v3, cs, hB, hR⟩ := hr
  have hsz : (wa (61 :: t)).size = t.length + 1 := by rw [wa_size]; rfl
  have hne : (wa (61 :: t)).toList.isEmpty = false := by rw [ByteArray.toList_eq, wa_data]; rfl
  have hsl := wa_tail 61 t
  rw [hsz] at hsl
  have hg0 : ∀ (h : 0 < (wa (61 :: t)).size), ((wa (61 :: t))[0]'h).toNat = 61 := fun h => rfl
  obtain ⟨tt, htt⟩ : ∃ tt, wa t = tt := ⟨_, rfl⟩
  rw [htt] at hsl
  have cU := fun W => undig_any tt t htt.symm W hl
  generalize wa (61 :: t) = s at *
  have f1 : 0 < s.size := by omega
  have hgx := hg0 f1
  have lt1 := own_ltV hR.row1
  have lt2 := own_ltV hR.row2
  have lt3 := own_ltV hR.row3
  obtain ⟨A3, c3, hv3, -, -⟩ := own_formV hR.row3
  have hpi : ∃ res, unhP t = res := ⟨_, rfl⟩
  obtain ⟨res, hres⟩ := hpi
  simp only [hres] at cU ⊢
  clear htt hres hg0
  go_enter Tryd.func26, Tryd.ntmps26
  go_wp2
  all_goals (try (exfalso; omega))
  refine wp_region_facts [.is (.pointer (some ⟨g, 0, none⟩)), .is (.pointer (some ⟨g, 0, none⟩)), .is (.pointer (some ⟨g, 0, none⟩)), .is (.pointer (some ⟨g, 4, none⟩)), .is v3, .is (.string tt), fOwn w.heap.size res,
    ⟨fun v W => ∃ gb u, v = .slice (some ⟨gb, 0, none⟩) 1 1 ∧ Blk W gb 49 #[u] ∧ OwnB W w.heap.size u res, fun _ _ _ ⟨gb, u, e, h1, h2⟩ hg => ⟨gb, u, e, h1.below hg h1.lt, h2.gr hg⟩⟩,
    ⟨fun v W => base ≤ W.heap.size ∧ Blk W g 26 #[.int .i64 r.err, .int .i64 r.n, v1, v2, v3] ∧ ∃ cs', PRows base (lstW r res) v1 v2 v cs' W, fun _ _ _ ⟨h0, h1, cs', h2⟩ hg => ⟨Nat.le_trans h0 hg.size, h1.below hg h1.lt, cs', h2.gr hg⟩⟩,
    .is (.pointer (some ⟨g, 0, none⟩)), .is (.pointer (some ⟨g, 4, none⟩)), ⟨fun _ W => POwn base g (lstW r res) W, fun _ _ _ h hg => h.gr hg⟩]
    (fun W => base ≤ W.heap.size ∧ Blk W g 26 #[.int .i64 r.err, .int .i64 r.n, v1, v2, v3] ∧ PRows base r v1 v2 v3 cs W)
    (fun i j => i == 8 && (j == 6 || j == 7) || i == 11 && (j == 6 || j == 7 || j == 8)) (fun i => i == 8 || i == 11) g (by kernel_rfl) rfl (by kernel_rfl) (by kernel_rfl) (Nat.le_of_lt hB.lt) ⟨hbs, hB, hR.gr (Gr.drew _)⟩ (fun vals => by simp [fillA, dstsOf, go_sem]; rfl) ?_ ?_
  · intro i hi
    replace hi : i < 12 := hi
    have hI : ∀ W W', (base ≤ W.heap.size ∧ Blk W g 26 #[.int .i64 r.err, .int .i64 r.n, v1, v2, v3] ∧ PRows base r v1 v2 v3 cs W) → Gr W W' → (base ≤ W'.heap.size ∧ Blk W' g 26 #[.int .i64 r.err, .int .i64 r.n, v1, v2, v3] ∧ PRows base r v1 v2 v3 cs W') := fun _ _ h hg => ⟨Nat.le_trans h.1 hg.size, h.2.1.below hg h.2.1.lt, h.2.2.gr hg⟩
    rcases (by omega : i = 0 ∨ i = 1 ∨ i = 2 ∨ i = 3 ∨ i = 4 ∨ i = 5 ∨ i = 6 ∨ i = 7 ∨ i = 8 ∨ i = 9 ∨ i = 10 ∨ i = 11) with rfl | rfl | rfl | rfl | rfl | rfl | rfl | rfl | rfl | rfl | rfl | rfl
    · refine step_g 0 [] _ _ rfl rfl hI (by kernel_rfl) fun vals W hb hB hIw hd => ?_
      go_wp2
      exact ⟨rfl, _, rfl, Gr.refl _, rfl⟩
    · refine step_g 1 [] _ _ rfl rfl hI (by kernel_rfl) fun vals W hb hB hIw hd => ?_
      go_wp2
      exact ⟨rfl, _, rfl, Gr.refl _, rfl⟩
    · refine step_g 2 [1] _ _ rfl rfl hI (by kernel_rfl) fun vals W hb hB hIw hd => ?_
      have h0 : vals 1 = _ := hd 1 (by simp) _ rfl
      rw [h0]
      go_wp2
      exact ⟨rfl, _, rfl, Gr.refl _, rfl⟩
    · refine step_g 3 [2] _ _ rfl rfl hI (by kernel_rfl) fun vals W hb hB hIw hd => ?_
      have h0 : vals 2 = _ := hd 2 (by simp) _ rfl
      rw [h0]
      go_wp2
      exact ⟨rfl, _, rfl, Gr.refl _, rfl⟩
    · refine step_g 4 [3] _ _ rfl rfl hI (by kernel_rfl) fun vals W hb hB hIw hd => ?_
      have h0 : vals 3 = _ := hd 3 (by simp) _ rfl
      rw [h0]
      obtain ⟨-, hBW, -⟩ := hIw (by kernel_rfl)
      obtain ⟨s0, s1, s2, s3, s4⟩ := five_cells hBW
      rw [hv3] at s4 ⊢
      go_wp2
      exact ⟨rfl, _, rfl, Gr.refl _, rfl⟩
    · refine step_g 5 [] _ _ rfl rfl hI (by kernel_rfl) fun vals W hb hB hIw hd => ?_
      go_wp2
      exact ⟨rfl, _, rfl, Gr.refl _, rfl⟩
    · refine step_g 6 [5] _ _ rfl rfl hI (by kernel_rfl) fun vals W hb hB hIw hd => ?_
      have h0 : vals 5 = _ := hd 5 (by simp) _ rfl
      rw [h0]
      go_wp2_with (go_at_call 52; (with_reducible refine (cU W).mono ?_); rintro e w2 ⟨v2, rfl, ho2, hb2⟩)
      exact ⟨rfl, _, rfl, hb2, ho2.lower hb.size⟩
    · refine step_g 7 [6] _ _ rfl rfl hI (by kernel_rfl) fun vals W hb hB hIw hd => ?_
      have h0 : OwnB W w.heap.size (vals 6) res := hd 6 (by simp) _ rfl
      obtain ⟨A6, c6, e6, -, -⟩ := own_formV h0
      rw [e6] at h0 ⊢
      go_wp2
      exact ⟨rfl, _, rfl, Gr.alloc _ _, _, _, rfl, Blk.new _ _ _, h0.gr (Gr.alloc _ _)⟩
    · refine step_s 8 [4, 7] [0, 1, 2, 3, 4, 5, 9, 10] _ _ rfl rfl (by kernel_rfl) (by kernel_rfl) fun vals W hb hB hIw hd => ?_
      have h4 : vals 4 = v3 := hd 4 (by simp) _ rfl
      obtain ⟨gb, u, h7, hN, hO⟩ := (show ∃ gb u, vals 7 = .slice (some ⟨gb, 0, none⟩) 1 1 ∧ Blk W gb 49 #[u] ∧ OwnB W w.heap.size u res from hd 7 (by simp) _ rfl)
      obtain ⟨hbW, hBW, hRW⟩ := hIw (by kernel_rfl)
      obtain ⟨A6, c6, e6, -, -⟩ := own_formV hO
      have hk := own_rkB hO
      refine wpList_appendY W rfl (.tmp 42) (.tmp 45) rfl base v3 _ cs h4 hRW.row3 gb u h7 hN (by rw [e6]; rfl) hn hbW fun v' w' hr hg ha => wpList_nil ?_
      have hR6 := hRW.app3 (x := res) (u := u) hg ha (by simpa using hr) (hk.mono fun b hb => ⟨Nat.le_trans hbs hb.1, hb.2, fun e => by have := lt1 b e; omega, fun e => by have := lt2 b e; omega, fun e => by have := lt3 b e; omega⟩)
      have hb6 := own_bel hRW.row3 hg (Nat.le_of_lt hgb) hbW
      have hB6 := hBW.grown hg (fun e => by have := own_geV hRW.row3 g e.symm; omega)
      refine ⟨rfl, _, rfl, hb6, ⟨Nat.le_trans hbW hb6.size, hB6, _, hR6⟩, fun h => (by cases h), fun j hj => ?_⟩
      simp only [List.mem_cons, List.not_mem_nil, or_false] at hj
      rcases hj with rfl | rfl | rfl | rfl | rfl | rfl | rfl | rfl
      all_goals
        rintro g hg hp; obtain rfl := Option.some.inj hg; exact hp
    · refine step_g 9 [0] _ _ rfl rfl hI (by kernel_rfl) fun vals W hb hB hIw hd => ?_
      have h0 : vals 0 = _ := hd 0 (by simp) _ rfl
      rw [h0]
      go_wp2
      exact ⟨rfl, _, rfl, Gr.refl _, rfl⟩
    · refine step_g 10 [9] _ _ rfl rfl hI (by kernel_rfl) fun vals W hb hB hIw hd => ?_
      have h0 : vals 9 = _ := hd 9 (by simp) _ rfl
      rw [h0]
      go_wp2
      exact ⟨rfl, _, rfl, Gr.refl _, rfl⟩
    · refine step_s 11 [8, 10] [0, 1, 2, 3, 4, 5, 9, 10] _ _ rfl rfl (by kernel_rfl) (by kernel_rfl) fun vals W hb hB hIw hd => ?_
      obtain ⟨hbW, hBW, cs', hRW⟩ := (show base ≤ W.heap.size ∧ Blk W g 26 #[.int .i64 r.err, .int .i64 r.n, v1, v2, v3] ∧ ∃ cs', PRows base (lstW r res) v1 v2 (vals 8) cs' W from hd 8 (by simp) _ rfl)
      have h0 : vals 10 = _ := hd 10 (by simp) _ rfl
      obtain ⟨A6, c6, e6', -, -⟩ := own_formV hRW.row3
      have e6 : vals 8 = .slice A6 (r.lst.length + 1) c6 := by rw [e6']; simp
      rw [h0]
      rw [e6] at hRW ⊢
      obtain ⟨s0, s1, s2, s3, s4⟩ := five_cells hBW
      have hfr := hBW.frozen 4
      go_wp2
      refine ⟨rfl, undef, rfl, below_setG (Below.refl _ _) _, ⟨hgb, by rw [size_setG]; exact hbW, _, _, _, cs', hBW.set_ 4 _, hRW.far hgb _⟩, fun h => (by cases h), fun j hj => ?_⟩
      simp only [List.mem_cons, List.not_mem_nil, or_false] at hj
      rcases hj with rfl | rfl | rfl | rfl | rfl | rfl | rfl | rfl
      all_goals
        rintro g hg hp; obtain rfl := Option.some.inj hg; exact hp
  · intro vals W3 hb3 hf
    have h11 : POwn base g (lstW r res) W3 := hf 11 _ rfl (fun k hk => by simp)
    go_wp2
    go_ret
    exact ⟨rfl, h11, hb3⟩
end Go.Proofs.YtppnlijeonneeaaDoor

namespace Go.Proofs.YtppnlijeonneeaaDoor
open Go Go.RowKit Go.Sort

def parseO (cand : List (List UInt8) → Option Rep) (l : List UInt8) : Rep × Int := if 4000 < l.length then (Rep.zero, 2) else match cand (splW l) with
  | none => (Rep.zero, 2)
  | some r => if mayR r ∧ textO r = l then (r, 0) else (Rep.zero, 2)
theorem parseO_ok {cand : List (List UInt8) → Option Rep} {l : List UInt8} {r : Rep} (h : OkR l r) (hc : cand (splW l) = some r) : parseO cand l = (r, 0) := by
  unfold parseO
  rw [if_neg (by have := h.1; omega), hc]
  dsimp only
  rw [if_pos h.2]
theorem parseO_no {cand : List (List UInt8) → Option Rep} {l : List UInt8} (h : ∀ r, ¬ OkR l r) : parseO cand l = (Rep.zero, 2) := by
  unfold parseO
  by_cases hl : 4000 < l.length
  · rw [if_pos hl]
  · rw [if_neg hl]
    cases hc : cand (splW l) with
    | none => rfl
    | some r =>
      dsimp only
      rw [if_neg (fun hh => h r ⟨by omega, hh⟩)]
theorem parseO_eq (l : List UInt8) : parseO candP l = parseO candR l := by
  by_cases h : ∃ r, OkR l r
  · obtain ⟨r, h⟩ := h
    rw [parseO_ok h h.cp, parseO_ok h h.cr]
  · rw [parseO_no (fun r hr => h ⟨r, hr⟩), parseO_no (fun r hr => h ⟨r, hr⟩)]
theorem parseO_back (cand : List (List UInt8) → Option Rep) (l : List UInt8) (h : (parseO cand l).2 = 0) : OkR l (parseO cand l).1 := by
  unfold parseO at *
  by_cases hl : 4000 < l.length
  · rw [if_pos hl] at h; cases h
  · rw [if_neg hl] at h ⊢
    cases hc : cand (splW l) with
    | none => rw [hc] at h; cases h
    | some r =>
      rw [hc] at h
      dsimp only at h ⊢
      by_cases hh : mayR r ∧ textO r = l
      · rw [if_pos hh]; exact ⟨by omega, hh⟩
      · rw [if_neg hh] at h; cases h
/-- How long an answer's text is, but for its head. -/
def szW (r : Rep) : Nat := (ledW 43 r.nl).length + (ledW 33 r.hl).length + (ledW 61 r.xl).length
def sumO (l : List (List UInt8)) : Nat := (l.map (fun w => w.length + 1)).foldr (· + ·) 0
theorem sumO_cons (w : List UInt8) (l : List (List UInt8)) : sumO (w :: l) = w.length + 1 + sumO l := by simp [sumO]
theorem ledW_len1 (c : UInt8) (l : List (List UInt8)) (s : List UInt8) : (ledW c (l ++ [s])).length = (ledW c l).length + s.length + 2 := by
  rw [ledW_snoc, List.length_append, List.length_cons, List.length_cons]
  omega
theorem unhP_half : ∀ l : List UInt8, 2 * (unhP l).length ≤ l.length
  | [] => Nat.le_refl _
  | [_] => Nat.zero_le _
  | a :: b :: r => by
    have := unhP_half r
    rw [unhP, List.length_cons, List.length_cons, List.length_cons]
    omega
theorem sz_putP {w : List UInt8} {r r' : Rep} (h : putP w r = some r') : szW r' ≤ szW r + w.length + 1 := by
  cases w with
  | nil => cases h
  | cons c t =>
    rw [putP] at h
    have hx := unhP_half t
    split at h
    · cases h
      simp only [szW, Rep.nl, Rep.hl, Rep.xl, List.map_append, List.map_cons, List.map_nil, ledW_len1, wa_data, List.length_cons]
      omega
    · split at h
      · cases h
        simp only [szW, Rep.nl, Rep.hl, Rep.xl, List.map_append, List.map_cons, List.map_nil, ledW_len1, wa_data, List.length_cons]
        omega
      · split at h
        · cases h
          simp only [szW, Rep.nl, Rep.hl, Rep.xl, List.map_append, List.map_cons, List.map_nil, ledW_len1, hexL_len, List.length_cons]
          omega
        · cases h
theorem sz_fold (put : List UInt8 → Rep → Option Rep) (hp : ∀ w r r', put w r = some r' → szW r' ≤ szW r + w.length + 1) : ∀ (l : List (List UInt8)) (r r' : Rep), foldW put l r = some r' → szW r' ≤ szW r + sumO l
  | [], r, r', h => by cases h; simp [sumO]
  | w :: l, r, r', h => by
    rw [foldW] at h
    cases e : put w r with
    | none => rw [e] at h; cases h
    | some q =>
      rw [e] at h
      have h1 := hp w r q e
      have h2 := sz_fold put hp l q r' h
      rw [sumO_cons]
      omega
theorem ledW_cnt (c : UInt8) : ∀ l : List (List UInt8), l.length ≤ (ledW c l).length ∧ ∀ s ∈ l, s.length ≤ (ledW c l).length
  | [] => ⟨Nat.le_refl _, fun s h => by cases h⟩
  | x :: l => by
    obtain ⟨h1, h2⟩ := ledW_cnt c l
    rw [ledW_cons]
    simp only [List.length_cons, List.length_append]
    refine ⟨by omega, fun s hs => ?_⟩
    rcases List.mem_cons.1 hs with rfl | hs
    · omega
    · have := h2 s hs
      omega
theorem sz_lens (r : Rep) : r.nms.length ≤ szW r ∧ r.held.length ≤ szW r ∧ r.lst.length ≤ szW r ∧ (∀ a ∈ r.nms, a.size ≤ szW r) ∧ (∀ a ∈ r.held, a.size ≤ szW r) ∧ ∀ x ∈ r.lst, x.length ≤ szW r := by
  obtain ⟨h1, h2⟩ := ledW_cnt 43 r.nl
  obtain ⟨h3, h4⟩ := ledW_cnt 33 r.hl
  obtain ⟨h5, h6⟩ := ledW_cnt 61 r.xl
  unfold szW
  have e1 : r.nl.length = r.nms.length := by simp [Rep.nl]
  have e2 : r.hl.length = r.held.length := by simp [Rep.hl]
  have e3 : r.xl.length = r.lst.length := by simp [Rep.xl]
  refine ⟨by omega, by omega, by omega, fun a ha => ?_, fun a ha => ?_, fun x hx => ?_⟩
  · have := h2 _ (List.mem_map_of_mem (f := (·.data.toList)) ha)
    have e : a.data.toList.length = a.size := by simp
    omega
  · have := h4 _ (List.mem_map_of_mem (f := (·.data.toList)) ha)
    have e : a.data.toList.length = a.size := by simp
    omega
  · have := h6 _ (List.mem_map_of_mem (f := hexL) hx)
    rw [hexL_len] at this
    omega
theorem textO_sz (r : Rep) (h0 : -9223372036854775808 ≤ r.err) (h1 : r.err ≤ 9223372036854775807) (h2 : -9223372036854775808 ≤ r.n) (h3 : r.n ≤ 9223372036854775807) : (textO r).length ≤ 30 + szW r := by
  have i1 := itoa_20 h0 h1
  have i2 := itoa_20 h2 h3
  unfold textO szW
  split
  · simp only [List.length_append, List.length_cons, List.length_nil]; omega
  · simp only [List.length_append, List.length_cons, List.length_nil]; omega
theorem sum_spl : ∀ l : List UInt8, sumO (splW l) = l.length + 1
  | [] => by simp [splW, sumO]
  | c :: l => by
    have ih := sum_spl l
    rw [splW]
    split
    · rw [sumO_cons, ih]; simp; omega
    · cases e : splW l with
      | nil => exact absurd e (splW_ne l)
      | cons x r =>
        rw [e, sumO_cons] at ih
        simp only [addHd, sumO_cons, List.length_cons]
        omega
theorem sum_take (l : List (List UInt8)) : ∀ k, sumO (l.take k) ≤ sumO l := by
  induction l with
  | nil => intro k; simp
  | cons w l ih =>
    intro k
    cases k with
    | zero => simp [sumO]
    | succ k =>
      have := ih k
      rw [List.take_succ_cons, sumO_cons, sumO_cons]
      omega
theorem fold_next {put : List UInt8 → Rep → Option Rep} {l : List (List UInt8)} {k : Nat} {x : List UInt8} {r0 r : Rep} (h : foldW put (l.take k) r0 = some r) (hx : l[k]? = some x) : foldW put (l.take (k + 1)) r0 = put x r := by
  obtain ⟨hl, e⟩ := List.getElem?_eq_some_iff.1 hx
  rw [List.take_succ_eq_append_getElem hl, e, foldW_app put _ _ _ _ h, foldW]
  cases put x r <;> rfl
theorem foldW_no (put : List UInt8 → Rep → Option Rep) : ∀ (l m : List (List UInt8)) (r : Rep), foldW put l r = none → foldW put (l ++ m) r = none
  | [], _, _, h => by cases h
  | w :: l, m, r, h => by
    rw [List.cons_append, foldW]
    rw [foldW] at h
    cases e : put w r with
    | none => rfl
    | some q =>
      rw [e] at h
      exact foldW_no put l m q h
theorem fold_fail {put : List UInt8 → Rep → Option Rep} {l : List (List UInt8)} {k : Nat} {x : List UInt8} {r0 r : Rep} (h : foldW put (l.take k) r0 = some r) (hx : l[k]? = some x) (hp : put x r = none) : foldW put l r0 = none := by
  have h1 := fold_next h hx
  rw [hp] at h1
  have := foldW_no put _ (l.drop (k + 1)) r0 h1
  rwa [List.take_append_drop] at this
/-- What Parse of an answer tells. -/
def PParR (o : Rep × Int) (w : World) (e : Ending) (w' : World) : Prop := ∃ v, e = .returned (.tuple #[v, .int .i64 o.2]) ∧ RdRep w' (· < w'.heap.size) o.1 v ∧ Gr w w'
abbrev repZ : Array Value := #[.int .i64 0, .int .i64 0, .slice none 0 0, .slice none 0 0, .slice none 0 0]
theorem gr_set5 {w W : World} (hg : Gr w W) (g : Nat) (h : w.heap.size ≤ g) (y0 y1 y2 y3 y4 : Value) : Gr w (set5v W g y0 y1 y2 y3 y4) :=
  Below.setCell (Below.setCell (Below.setCell (Below.setCell (Below.setCell hg h _) h _) h _) h _) h _
theorem PParR.zero {w W : World} {o : Rep × Int} (ho : o = (Rep.zero, 2)) (hg : Gr w W) : PParR o w (.returned (.tuple #[.agg repZ, .int .i64 2])) (set5v W w.heap.size (.int .i64 0) (.int .i64 0) (.slice none 0 0) (.slice none 0 0) (.slice none 0 0)) := by
  rw [ho]
  exact ⟨_, rfl, rep0 _ _ 0 0, gr_set5 hg _ (Nat.le_refl _) _ _ _ _ _⟩
theorem PParR.done {w W : World} {o : Rep × Int} {r : Rep} {x0 x1 x2 x3 x4 : Value} (ho : o = (r, 0)) (hr : RdRep W (fun b => w.heap.size + 1 ≤ b ∧ b < W.heap.size) r (.agg #[x0, x1, x2, x3, x4])) (hg : Gr w W) : PParR o w (.returned (.tuple #[.agg #[x0, x1, x2, x3, x4], .int .i64 0])) (set5v W w.heap.size x0 x1 x2 x3 x4) := by
  rw [ho]
  exact ⟨_, rfl, (hr.keep fun p hp => set5_far (by have := hp.1; omega) _ _ _ _ _).mono fun b hb => by rw [set5_size]; exact hb.2, gr_set5 hg _ (Nat.le_refl _) _ _ _ _ _⟩
/-- What Split leaves. -/
structure SplR (w : World) (ws : List ByteArray) (w1 : World) : Prop where
  row : Blk w1 (w.heap.size + 1) 9 (ws.map Value.string).toArray
  res : Blk w1 w.heap.size 26 repZ
  gr : Gr w w1
  size : w1.heap.size = w.heap.size + 2
theorem splitR_any (l : List UInt8) (w : World) (hs : l.length ≤ 5000) (hV : WVars w) :
    Calls Tryd.prog 24 #[.string (wa l), .string ⟨#[32]⟩] (w.alloc (.cells repZ 26)) fun e w' => e = .returned (.slice (some ⟨w.heap.size + 1, 0, none⟩) (splW l).length (splW l).length) ∧ SplR w ((splW l).map wa) w' := by
  obtain ⟨m, hm⟩ := (hV.gr (Gr.alloc w (.cells repZ 26))).2.2
  have hl := Lib.splitB_all ⟨#[32]⟩ (by decide) 0 _ (wa l) rfl
  rw [split_words, List.length_map, wa_data] at hl
  have hs1 : (w.alloc (.cells repZ 26)).heap.size = w.heap.size + 1 := by simp
  refine (Tryd.strings_Split (wa l) ⟨#[32]⟩ m _ (by rw [wa_size]; omega) hm (by decide)).mono ?_
  rintro e w' ⟨rfl, rfl⟩
  rw [split_words, wa_data, ← hl, hs1]
  have hB := Blk.new (w.alloc (.cells repZ 26)) 9 (((splW l).map wa).map Value.string).toArray
  rw [hs1] at hB
  exact ⟨rfl, hB, (Blk.new w _ _).alloc _, Gr.trans (Gr.alloc _ _) (Gr.alloc _ _), by simp⟩
theorem own_rkV {w : World} {base e n : Nat} {v : Value} {xs : List Value} (h : w.ownsRow base e 1 v n xs) : ∃ A c, v = .slice A n c ∧ (n ≤ c ∧ c ≤ maxLen) ∧ Rk w (fun b => base ≤ b ∧ b < w.heap.size) 1 A n xs := by
  have h1 := h.1
  rcases h.2 with ⟨rfl, h0⟩ | ⟨g, cap, cur, rfl, e2, e3, e4, e5⟩
  · exact ⟨none, 0, by rw [h0], ⟨by omega, Nat.zero_le _⟩, by rw [h0] at h1 ⊢; simpa using h1, fun hn => by omega⟩
  · exact ⟨some ⟨g, 0, none⟩, cap, rfl, ⟨e4, e5.1⟩, by simpa using h1, fun _ => ⟨_, rfl, ⟨e2, (Array.getElem?_eq_some_iff.1 e3).1⟩, World.ownsRow.cells h rfl⟩⟩
theorem PRows.rd {base : Nat} {r : Rep} {v1 v2 v3 : Value} {cs : List Value} {w : World} (h : PRows base r v1 v2 v3 cs w) : RdRep w (fun b => base ≤ b ∧ b < w.heap.size) r (.agg #[.int .i64 r.err, .int .i64 r.n, v1, v2, v3]) := by
  obtain ⟨A3, c3, e3, q3, k3⟩ := own_rkV h.row3
  obtain ⟨A1, c1, e1, q1, k1⟩ := own_rkV h.row1
  obtain ⟨A2, c2, e2, q2, k2⟩ := own_rkV h.row2
  exact ⟨_, _, _, rfl, ⟨A1, c1, e1, q1, k1⟩, ⟨A2, c2, e2, q2, k2⟩, ⟨A3, c3, cs, e3, q3, k3, RkLs.mono (fun _ hb => ⟨hb.1, hb.2.1⟩) _ _ h.mem⟩⟩
theorem put_some {l : List UInt8} {r r' : Rep} (base g : Nat) (w : World) (hl : l.length ≤ 1000000) (hr : POwn base g r w) (hs : szW r ≤ 100000) (hp : putP l r = some r') : Calls Tryd.prog 26 #[.pointer (some ⟨g, 0, none⟩), .string (wa l)] w fun e w' => e = .returned (.bool true) ∧ POwn base g r' w' ∧ Below g w w' := by
  obtain ⟨n1, n2, n3, -⟩ := sz_lens r
  cases l with
  | nil => cases hp
  | cons c t =>
    simp only [List.length_cons] at hl
    rw [putP] at hp
    split at hp
    · rename_i h; subst h; cases hp
      exact put_1 t r base g w (by omega) hr (by omega)
    · split at hp
      · rename_i h; subst h; cases hp
        exact put_2 t r base g w (by omega) hr (by omega)
      · split at hp
        · rename_i h; subst h; cases hp
          exact put_3 t r base g w (by omega) hr (by omega)
        · cases hp
end Go.Proofs.YtppnlijeonneeaaDoor

namespace Go.Proofs.YtppnlijeonneeaaDoor
open Go Go.RowKit Go.Sort

theorem foldP_bound {m : List (List UInt8)} {r0 r : Rep} {k N : Nat} (h : foldW putP (m.take k) r0 = some r) (h0 : szW r0 = 0) (hm : sumO m ≤ N) : szW r ≤ N := by
  have h1 := sz_fold putP (fun w r r' => sz_putP) _ _ _ h
  have h2 := sum_take m k
  omega
theorem fold_err {put : List UInt8 → Rep → Option Rep} (hp : ∀ w r r', put w r = some r' → r'.err = r.err ∧ r'.n = r.n) : ∀ (l : List (List UInt8)) (r r' : Rep), foldW put l r = some r' → r'.err = r.err ∧ r'.n = r.n
  | [], r, r', h => by cases h; exact ⟨rfl, rfl⟩
  | w :: l, r, r', h => by
    rw [foldW] at h
    cases e : put w r with
    | none => rw [e] at h; cases h
    | some q =>
      rw [e] at h
      have h1 := hp w r q e
      have h2 := fold_err hp l q r' h
      exact ⟨h2.1.trans h1.1, h2.2.trans h1.2⟩
theorem putP_err : ∀ (w : List UInt8) (r r' : Rep), putP w r = some r' → r'.err = r.err ∧ r'.n = r.n := by
  intro w r r' h
  cases w with
  | nil => cases h
  | cons c t =>
    rw [putP] at h
    split at h
    · cases h; exact ⟨rfl, rfl⟩
    · split at h
      · cases h; exact ⟨rfl, rfl⟩
      · split at h
        · cases h; exact ⟨rfl, rfl⟩
        · cases h
set_option maxRecDepth 100000 in
set_option maxHeartbeats 2000000 in
theorem pparse_long (l : List UInt8) (w : World) (hV : WVars w) (hl : l.length ≤ 5000) (h : 4000 < l.length) : Calls Tryd.prog 9 #[.string (wa l)] w (PParR (parseO candP l) w) := by
  have hp : parseO candP l = (Rep.zero, 2) := by unfold parseO; rw [if_pos h]
  have hF := fun (W : World) (hg : Gr w W) => PParR.zero hp hg
  generalize PParR (parseO candP l) w = Post at *
  have cS := splitR_any l w hl hV
  have hsz : (wa l).size = l.length := wa_size l
  have f1 : 4000 < (wa l).size := by omega
  have f2 : (wa l).size ≤ 5000 := by omega
  clear hsz hp
  generalize wa l = s at *
  generalize (splW l).length = N at *
  go_enter Tryd.func9, Tryd.ntmps9
  go_wp2_with (go_at_call 24; (with_reducible refine cS.mono ?_); rintro e w1 ⟨rfl, hsp⟩
               obtain ⟨z0, z1, z2, z3, z4, q0, q1, q2, q3, q4⟩ := five_cells5 hsp.res)
  all_goals (try (exfalso; omega))
  obtain ⟨z0, z1, z2, z3, z4, -⟩ := five_cells5 (hsp.res.put5 (y0 := .int .i64 0) (y1 := .int .i64 0) (y2 := .slice none 0 0) (y3 := .slice none 0 0) (y4 := .slice none 0 0))
  exact bodyPost_ret (v := .tuple #[.agg repZ, .int .i64 2]) (by simp [results, Tryd.results9, go_sem, z0, z1, z2, z3, z4]) rfl (hF _ hsp.gr)
set_option maxRecDepth 100000 in
set_option maxHeartbeats 2000000 in
theorem pparse_few (l : List UInt8) (w : World) (hV : WVars w) (hl : l.length ≤ 4000) (h : (splW l).length < 2) : Calls Tryd.prog 9 #[.string (wa l)] w (PParR (parseO candP l) w) := by
  have hp : parseO candP l = (Rep.zero, 2) := by
    unfold parseO
    rw [if_neg (by omega)]
    rcases e : splW l with _ | ⟨a, _ | ⟨b, r⟩⟩
    · rfl
    · rfl
    · rw [e] at h; simp at h; omega
  have hF := fun (W : World) (hg : Gr w W) => PParR.zero hp hg
  generalize PParR (parseO candP l) w = Post at *
  have cS := splitR_any l w (by omega) hV
  have hsz : (wa l).size = l.length := wa_size l
  have f1 : (wa l).size ≤ 4000 := by omega
  clear hsz hp
  generalize wa l = s at *
  generalize (splW l).length = N at *
  go_enter Tryd.func9, Tryd.ntmps9
  go_wp2_with (go_at_call 24; (with_reducible refine cS.mono ?_); rintro e w1 ⟨rfl, hsp⟩
               obtain ⟨z0, z1, z2, z3, z4, q0, q1, q2, q3, q4⟩ := five_cells5 hsp.res)
  all_goals (try (exfalso; omega))
  obtain ⟨z0, z1, z2, z3, z4, -⟩ := five_cells5 (hsp.res.put5 (y0 := .int .i64 0) (y1 := .int .i64 0) (y2 := .slice none 0 0) (y3 := .slice none 0 0) (y4 := .slice none 0 0))
  exact bodyPost_ret (v := .tuple #[.agg repZ, .int .i64 2]) (by simp [results, Tryd.results9, go_sem, z0, z1, z2, z3, z4]) rfl (hF _ hsp.gr)
theorem row_cell {w : World} {ws : List (List UInt8)} {w1 : World} (h : SplR w (ws.map wa) w1) {k : Nat} {x : List UInt8} (hx : ws[k]? = some x) : w1.cell? ⟨w.heap.size + 1, k, none⟩ = some (.string (wa x)) := by
  rw [h.row.cell k, ← Array.getElem?_toList]
  simp [hx]
set_option maxRecDepth 100000 in
set_option maxHeartbeats 2000000 in
theorem pparse_nan (l : List UInt8) (w : World) (hV : WVars w) (hl : l.length ≤ 4000) (a b : List UInt8) (r : List (List UInt8)) (he : splW l = a :: b :: r) (hn : ∀ v, Lib.atoiAll b ≠ .ok v) : Calls Tryd.prog 9 #[.string (wa l)] w (PParR (parseO candP l) w) := by
  have hp : parseO candP l = (Rep.zero, 2) := by
    unfold parseO
    rw [if_neg (by omega), he, candP]
    cases e : Lib.atoiAll b with
    | ok v => exact absurd e (hn v)
    | _ => rfl
  have hF := fun (W : World) (hg : Gr w W) => PParR.zero hp hg
  generalize PParR (parseO candP l) w = Post at *
  have cS := splitR_any l w (by omega) hV
  have hsz : (wa l).size = l.length := wa_size l
  have f1 : (wa l).size ≤ 4000 := by omega
  have hbl : b.length ≤ 4000 := by
    have := (splW_len l).2 b (by rw [he]; simp)
    omega
  have cA := fun W (hg : Gr w W) => atoi_err (wa b) W (by rw [wa_size]; omega) (hV.gr hg).2.1 (by rw [wa_data]; exact hn)
  rw [he] at cS
  have hN : 2 ≤ (a :: b :: r).length := by simp
  have hc1 := fun w1 (h : SplR w ((a :: b :: r).map wa) w1) => row_cell h (k := 1) (x := b) rfl
  clear hsz hp he
  generalize wa l = s at *
  generalize wa b = sb at *
  generalize hws : (a :: b :: r).map wa = ws at *
  generalize (a :: b :: r).length = N at *
  go_enter Tryd.func9, Tryd.ntmps9
  go_wp2_with (first
    | (go_at_call 24; (with_reducible refine cS.mono ?_); rintro e w1 ⟨rfl, hsp⟩
       have k1 := hc1 w1 hsp)
    | (go_at_call 25; (with_reducible refine (cA _ hsp.gr).mono ?_); rintro e w2 ⟨v2, N2, rfl, hb2⟩
       have hres := hsp.res.below hb2 hsp.res.lt
       obtain ⟨z0, z1, z2, z3, z4, q0, q1, q2, q3, q4⟩ := five_cells5 hres))
  all_goals (try (exfalso; omega))
  obtain ⟨z0, z1, z2, z3, z4, -⟩ := five_cells5 (hres.put5 (y0 := .int .i64 0) (y1 := .int .i64 0) (y2 := .slice none 0 0) (y3 := .slice none 0 0) (y4 := .slice none 0 0))
  exact bodyPost_ret (v := .tuple #[.agg repZ, .int .i64 2]) (by simp [results, Tryd.results9, go_sem, z0, z1, z2, z3, z4]) rfl (hF _ (Gr.trans hsp.gr hb2))
set_option maxRecDepth 100000 in
set_option maxHeartbeats 16000000 in
theorem pparse_err (l : List UInt8) (w : World) (hV : WVars w) (hl : l.length ≤ 4000) (a b : List UInt8) (rest : List (List UInt8)) (he : splW l = a :: b :: rest) (n : Int) (hn : Lib.atoiAll b = .ok n) (ha : a = bError) : Calls Tryd.prog 9 #[.string (wa l)] w (PParR (parseO candP l) w) := by
  have hp : parseO candP l = match foldW putP rest ⟨n, 0, [], [], []⟩ with
      | none => (Rep.zero, 2)
      | some r => if mayR r ∧ textO r = l then (r, 0) else (Rep.zero, 2) := by
    unfold parseO
    rw [if_neg (by omega), he, candP, hn]
    dsimp only
    rw [if_pos ha]
    try (cases foldW putP rest ⟨n, 0, [], [], []⟩ <;> rfl)
  have hF0 : foldW putP rest ⟨n, 0, [], [], []⟩ = none → ∀ W, Gr w W → PParR (parseO candP l) w (.returned (.tuple #[.agg repZ, .int .i64 2])) (set5v W w.heap.size (.int .i64 0) (.int .i64 0) (.slice none 0 0) (.slice none 0 0) (.slice none 0 0)) := fun h W hg => PParR.zero (by rw [hp, h]) hg
  have hF1 : ∀ r, foldW putP rest ⟨n, 0, [], [], []⟩ = some r → ¬ (mayR r ∧ textO r = l) → ∀ W, Gr w W → PParR (parseO candP l) w (.returned (.tuple #[.agg repZ, .int .i64 2])) (set5v W w.heap.size (.int .i64 0) (.int .i64 0) (.slice none 0 0) (.slice none 0 0) (.slice none 0 0)) := fun r h hm W hg => PParR.zero (by rw [hp, h]; dsimp only; rw [if_neg hm]) hg
  have hF2 : ∀ r, foldW putP rest ⟨n, 0, [], [], []⟩ = some r → mayR r → textO r = l → ∀ W x0 x1 x2 x3 x4, RdRep W (fun b => w.heap.size + 1 ≤ b ∧ b < W.heap.size) r (.agg #[x0, x1, x2, x3, x4]) → Gr w W → PParR (parseO candP l) w (.returned (.tuple #[.agg #[x0, x1, x2, x3, x4], .int .i64 0])) (set5v W w.heap.size x0 x1 x2 x3 x4) := fun r h hm ht W x0 x1 x2 x3 x4 hr hg => PParR.done (by rw [hp, h]; dsimp only; rw [if_pos ⟨hm, ht⟩]) hr hg
  generalize PParR (parseO candP l) w = Post at *
  have cS := splitR_any l w (by omega) hV
  have hsz : (wa l).size = l.length := wa_size l
  have f1 : (wa l).size ≤ 4000 := by omega
  have hwl : ∀ x ∈ splW l, x.length ≤ 4000 := fun x hx => by have := (splW_len l).2 x hx; omega
  rw [he] at cS hwl
  have hsum := sum_spl l
  rw [he, sumO_cons, sumO_cons] at hsum
  have hrs : sumO rest ≤ 5000 := by omega
  have hz0 : szW ⟨n, 0, [], [], []⟩ = 0 := rfl
  have hbd : ∀ (r : Rep) (k : Nat), foldW putP (rest.take k) ⟨n, 0, [], [], []⟩ = some r → szW r ≤ 5000 := fun r k h => foldP_bound h hz0 hrs
  have hbl : b.length ≤ 4000 := hwl b (by simp)
  have cA := fun W => atoi_ok (wa b) n W (by rw [wa_size]; omega) (by rw [wa_data]; exact hn)
  have cM : ∀ W v r, RdRep W (· < W.heap.size) r v → szW r ≤ 5000 → Calls Tryd.prog 27 #[v] W fun e w' => e = .returned (.bool (decide (mayR r))) ∧ Gr W w' := fun W v r hr hs => pmayR_any r v W hr (fun a ha => by have := (sz_lens r).2.2.2.1 a ha; omega) (fun a ha => by have := (sz_lens r).2.2.2.2.1 a ha; omega)
  have cT : ∀ W v r, Gr w W → RdRep W (· < W.heap.size) r v → szW r ≤ 5000 → mayR r → Calls Tryd.prog 11 #[v] W fun e w' => e = .returned (.string (wa (textO r))) ∧ Gr W w' := fun W v r hg hr hs hm => by
    have hm' := hm
    obtain ⟨m1, m2, m3, m4, _⟩ := hm'
    exact ptextO_any r v W (hV.gr hg).1 hr (by omega) (by omega) (by omega) (by omega) (by have := textO_sz r (by omega) (by omega) (by omega) (by omega); omega)
  have hN2 : (a :: b :: rest).length = rest.length + 2 := rfl
  rw [hN2] at cS
  have hc0 := fun w1 (h : SplR w ((a :: b :: rest).map wa) w1) => row_cell h (k := 0) (x := a) rfl
  have hc1 := fun w1 (h : SplR w ((a :: b :: rest).map wa) w1) => row_cell h (k := 1) (x := b) rfl
  have hck := fun w1 (h : SplR w ((a :: b :: rest).map wa) w1) k x (hx : rest[k]? = some x) => row_cell h (k := k + 2) (x := x) hx
  have hrl : ∀ (k : Nat) (x : List UInt8), rest[k]? = some x → x.length ≤ 4000 := fun (k : Nat) (x : List UInt8) hx => hwl x (by have := List.mem_of_getElem? hx; simp [this])
  have hM : rest.length ≤ 5000 := by
    have : ∀ m : List (List UInt8), m.length ≤ sumO m := by
      intro m
      induction m with
      | nil => exact Nat.le_refl _
      | cons x m ih => rw [sumO_cons, List.length_cons]; omega
    have := this rest
    omega
  subst ha
  clear hp he hwl hsum hn
  have hFN := fun k x r (h1 : foldW putP (rest.take k) ⟨n, 0, [], [], []⟩ = some r) (h2 : rest[k]? = some x) (h3 : putP x r = none) => fold_fail h1 h2 h3
  have hFS := fun k x r (h1 : foldW putP (rest.take k) ⟨n, 0, [], [], []⟩ = some r) (h2 : rest[k]? = some x) => fold_next h1 h2
  have hFE : ∀ r, foldW putP (rest.take rest.length) ⟨n, 0, [], [], []⟩ = some r → foldW putP rest ⟨n, 0, [], [], []⟩ = some r := fun r h => by rwa [List.take_length] at h
  have HF0 := Lib.hid hF0
  have HF1 := Lib.hid hF1
  have HF2 := Lib.hid hF2
  have HBD := Lib.hid hbd
  have HCK := Lib.hid hck
  have HRL := Lib.hid hrl
  have HFN := Lib.hid hFN
  have HFS := Lib.hid hFS
  have HFE := Lib.hid hFE
  have HM := Lib.hid cM
  have HT := Lib.hid cT
  have HSZ := Lib.hid hsz
  clear hF0 hF1 hF2 hbd hck hrl hFN hFS hFE cM cT hsz hrs hN2
  obtain ⟨s, hs⟩ : ∃ s, wa l = s := ⟨_, rfl⟩
  have HS := Lib.hid hs
  rw [hs] at cS f1 HSZ ⊢
  clear hs
  generalize wa b = sb at *
  rw [show wa bError = ⟨#[101, 114, 114, 111, 114]⟩ from rfl] at hc0
  generalize (bError :: b :: rest).map wa = ws at *
  rcases Nat.eq_zero_or_pos rest.length with hr0 | hr0
  · obtain rfl := List.eq_nil_of_length_eq_zero hr0
    clear hr0
    go_enter Tryd.func9, Tryd.ntmps9
    go_wp2_with (first
      | (go_at_call 24; (with_reducible refine cS.mono ?_); rintro e w1 ⟨rfl, hsp⟩
         have k1 := hc1 w1 hsp
         have z1 := hsp.size)
      | (go_at_call 25; (with_reducible refine (cA _).mono ?_); rintro e w2 ⟨rfl, hb2⟩
         have hres := hsp.res.below hb2 hsp.res.lt
         have z2 := hb2.size
         have k0 := (hb2.cell (p := ⟨w.heap.size + 1, 0, none⟩) (by show w.heap.size + 1 < _; omega)).trans (hc0 w1 hsp)
         have g3 := Gr.alloc w2 (.cells repZ 26)
         have k03 := (g3.cell (p := ⟨w.heap.size + 1, 0, none⟩) (by show w.heap.size + 1 < _; omega)).trans k0))
    all_goals (try (exfalso; omega))
    obtain ⟨W4, hW4⟩ : ∃ W4, w2.alloc (.cells #[.int .i64 n, .int .i64 0, .slice none 0 0, .slice none 0 0, .slice none 0 0] 26) = W4 := ⟨_, rfl⟩
    have hP4 : POwn (w2.heap.size + 1) w2.heap.size ⟨n, 0, [], [], []⟩ W4 := by rw [← hW4]; exact ⟨Nat.lt_succ_self _, by simp, _, _, _, [], Blk.new _ _ _, PRows.nil _ _ _ _⟩
    have hres4 : Blk W4 w.heap.size 26 repZ := by rw [← hW4]; exact hres.alloc _
    have hG4 : Gr w W4 := by rw [← hW4]; exact Gr.trans (Gr.trans hsp.gr hb2) (Gr.alloc _ _)
    have hk4 : ∀ k x, ([] : List (List UInt8))[k]? = some x → W4.cell? ⟨w.heap.size + 1, 2 + k, none⟩ = some (.string (wa x)) := by
      intro k x hx
      rw [← hW4, (Gr.alloc w2 _).cell (p := ⟨w.heap.size + 1, 2 + k, none⟩) (by show w.heap.size + 1 < _; omega), hb2.cell (p := ⟨w.heap.size + 1, 2 + k, none⟩) (by show w.heap.size + 1 < _; omega), Nat.add_comm 2 k]
      exact HCK.out w1 hsp k x hx
    have hgw : w.heap.size + 1 < w2.heap.size := by omega
    rw [hW4]
    clear hW4 k0 k03 k1 hres hb2 hsp z1 z2 hc0 hc1 cS cA
    generalize w2.heap.size = g at *
    go_loopw [42] (fun v42 wr => ∃ (k : Nat) (r : Rep), v42 = .int .i64 (k : Int) ∧ k ≤ ([] : List (List UInt8)).length ∧ Hid (foldW putP (([] : List (List UInt8)).take k) ⟨n, 0, [], [], []⟩ = some r) ∧ POwn (g + 1) g r wr ∧ Below g W4 wr) (fun v42 _ => ([] : List (List UInt8)).length - (intOf v42).toNat)
    case atStart => exact ⟨0, _, rfl, Nat.zero_le _, Lib.hid rfl, hP4, Below.refl _ _⟩
    case round =>
      obtain ⟨k, r, rfl, hk, hT, hPr, hb⟩ := hrel
      have hs5 := HBD.out r k hT.out
      have hresr := hres4.below hb (by omega)
      have hGr : Gr w wr := Below.trans hG4 (hb.mono (by omega))
      obtain ⟨z0, z1, z2, z3, z4, q0, q1, q2, q3, q4⟩ := five_cells5 hresr
      by_cases hlt : k < ([] : List (List UInt8)).length
      · exact absurd hlt (by simp)
      · obtain rfl : k = ([] : List (List UInt8)).length := by omega
        have hF := HFE.out r hT.out
        obtain ⟨hgb, hbs, v1, v2, v3, cs, hB, hR⟩ := hPr
        have hrd := hR.rd
        obtain ⟨A1, c1, rfl, -, -⟩ := own_formV hR.row1
        obtain ⟨A2, c2, rfl, -, -⟩ := own_formV hR.row2
        obtain ⟨A3, c3, rfl, -, -⟩ := own_formV hR.row3
        have hrw := hrd.mono (K' := (· < wr.heap.size)) fun _ h => h.2
        have cMr := HM.out wr _ r hrw hs5
        obtain ⟨s0, s1, s2, s3, s4⟩ := five_cells hB
        by_cases hm : mayR r
        · rw [decide_eq_true hm] at cMr
          by_cases ht : textO r = l
          · have HZ := Lib.hid (HF2.out r hF hm ht)
            have cTr := fun w5 (hb5 : Gr wr w5) => HT.out w5 _ r (Gr.trans hGr hb5) (hrw.gr hb5) hs5 hm
            rw [ht, HS.out] at cTr
            clear hF hT hk ht hm
            go_wp2_with (first
              | (go_at_call 27; (with_reducible refine cMr.mono ?_); rintro e w5 ⟨rfl, hb5⟩
                 obtain ⟨t0, t1, t2, t3, t4⟩ := five_cells (hB.below hb5 hB.lt))
              | (go_at_call 11; (with_reducible refine (cTr _ hb5).mono ?_); rintro e w6 ⟨rfl, hb6⟩
                 have hg6 := Gr.trans hb5 hb6
                 obtain ⟨x0, x1, x2, x3, x4⟩ := five_cells (hB.below hg6 hB.lt)
                 have hres6 := hresr.below hg6 hresr.lt
                 obtain ⟨y0, y1, y2, y3, y4, p0, p1, p2, p3, p4⟩ := five_cells5 hres6))
            all_goals (try (exfalso; omega))
            obtain ⟨z0, z1, z2, z3, z4, -⟩ := five_cells5 (hres6.put5 (y0 := .int .i64 r.err) (y1 := .int .i64 r.n) (y2 := .slice A1 r.nms.length c1) (y3 := .slice A2 r.held.length c2) (y4 := .slice A3 r.lst.length c3))
            exact bodyPost_ret (v := .tuple #[.agg #[.int .i64 r.err, .int .i64 r.n, .slice A1 r.nms.length c1, .slice A2 r.held.length c2, .slice A3 r.lst.length c3], .int .i64 0]) (by simp [results, Tryd.results9, go_sem, z0, z1, z2, z3, z4]) rfl (HZ.out _ _ _ _ _ _ ((hrd.keep fun p hp => hg6.cell hp.2).mono fun b hb => ⟨by have := hb.1; omega, Nat.lt_of_lt_of_le hb.2 hg6.size⟩) (Gr.trans hGr hg6))
          · have HZ := Lib.hid (HF1.out r hF fun h => ht h.2)
            have cTr := fun w5 (hb5 : Gr wr w5) => HT.out w5 _ r (Gr.trans hGr hb5) (hrw.gr hb5) hs5 hm
            have hne : wa (textO r) ≠ s := by rw [← HS.out]; exact fun h => ht (wa_inj h)
            obtain ⟨n1, n2⟩ := str_neqW hne
            generalize wa (textO r) = tt at *
            clear hF hT hk ht hm hne
            go_wp2_with (first
              | (go_at_call 27; (with_reducible refine cMr.mono ?_); rintro e w5 ⟨rfl, hb5⟩
                 obtain ⟨t0, t1, t2, t3, t4⟩ := five_cells (hB.below hb5 hB.lt))
              | (go_at_call 11; (with_reducible refine (cTr _ hb5).mono ?_); rintro e w6 ⟨rfl, hb6⟩
                 have hg6 := Gr.trans hb5 hb6
                 have hres6 := hresr.below hg6 hresr.lt
                 obtain ⟨y0, y1, y2, y3, y4, p0, p1, p2, p3, p4⟩ := five_cells5 hres6))
            all_goals (try (exfalso; omega))
            obtain ⟨z0, z1, z2, z3, z4, -⟩ := five_cells5 (hres6.put5 (y0 := .int .i64 0) (y1 := .int .i64 0) (y2 := .slice none 0 0) (y3 := .slice none 0 0) (y4 := .slice none 0 0))
            exact bodyPost_ret (v := .tuple #[.agg repZ, .int .i64 2]) (by simp [results, Tryd.results9, go_sem, z0, z1, z2, z3, z4]) rfl (HZ.out _ (Gr.trans hGr hg6))
        · rw [decide_eq_false hm] at cMr
          have HZ := Lib.hid (HF1.out r hF fun h => hm h.1)
          clear hF hT hk hm
          go_wp2_with (go_at_call 27; (with_reducible refine cMr.mono ?_); rintro e w5 ⟨rfl, hb5⟩
                       have hres6 := hresr.below hb5 hresr.lt
                       obtain ⟨y0, y1, y2, y3, y4, p0, p1, p2, p3, p4⟩ := five_cells5 hres6)
          all_goals (try (exfalso; omega))
          obtain ⟨z0, z1, z2, z3, z4, -⟩ := five_cells5 (hres6.put5 (y0 := .int .i64 0) (y1 := .int .i64 0) (y2 := .slice none 0 0) (y3 := .slice none 0 0) (y4 := .slice none 0 0))
          exact bodyPost_ret (v := .tuple #[.agg repZ, .int .i64 2]) (by simp [results, Tryd.results9, go_sem, z0, z1, z2, z3, z4]) rfl (HZ.out _ (Gr.trans hGr hb5))
  · go_enter Tryd.func9, Tryd.ntmps9
    go_wp2_with (first
      | (go_at_call 24; (with_reducible refine cS.mono ?_); rintro e w1 ⟨rfl, hsp⟩
         have k1 := hc1 w1 hsp
         have z1 := hsp.size)
      | (go_at_call 25; (with_reducible refine (cA _).mono ?_); rintro e w2 ⟨rfl, hb2⟩
         have hres := hsp.res.below hb2 hsp.res.lt
         have z2 := hb2.size
         have k0 := (hb2.cell (p := ⟨w.heap.size + 1, 0, none⟩) (by show w.heap.size + 1 < _; omega)).trans (hc0 w1 hsp)
         have g3 := Gr.alloc w2 (.cells repZ 26)
         have k03 := (g3.cell (p := ⟨w.heap.size + 1, 0, none⟩) (by show w.heap.size + 1 < _; omega)).trans k0))
    all_goals (try (exfalso; omega))
    obtain ⟨W4, hW4⟩ : ∃ W4, w2.alloc (.cells #[.int .i64 n, .int .i64 0, .slice none 0 0, .slice none 0 0, .slice none 0 0] 26) = W4 := ⟨_, rfl⟩
    have hP4 : POwn (w2.heap.size + 1) w2.heap.size ⟨n, 0, [], [], []⟩ W4 := by rw [← hW4]; exact ⟨Nat.lt_succ_self _, by simp, _, _, _, [], Blk.new _ _ _, PRows.nil _ _ _ _⟩
    have hres4 : Blk W4 w.heap.size 26 repZ := by rw [← hW4]; exact hres.alloc _
    have hG4 : Gr w W4 := by rw [← hW4]; exact Gr.trans (Gr.trans hsp.gr hb2) (Gr.alloc _ _)
    have hk4 : ∀ k x, rest[k]? = some x → W4.cell? ⟨w.heap.size + 1, 2 + k, none⟩ = some (.string (wa x)) := by
      intro k x hx
      rw [← hW4, (Gr.alloc w2 _).cell (p := ⟨w.heap.size + 1, 2 + k, none⟩) (by show w.heap.size + 1 < _; omega), hb2.cell (p := ⟨w.heap.size + 1, 2 + k, none⟩) (by show w.heap.size + 1 < _; omega), Nat.add_comm 2 k]
      exact HCK.out w1 hsp k x hx
    have hgw : w.heap.size + 1 < w2.heap.size := by omega
    rw [hW4]
    clear hW4 k0 k03 k1 hres hb2 hsp z1 z2 hc0 hc1 cS cA
    generalize w2.heap.size = g at *
    go_loopw [42] (fun v42 wr => ∃ (k : Nat) (r : Rep), v42 = .int .i64 (k : Int) ∧ k ≤ rest.length ∧ Hid (foldW putP (rest.take k) ⟨n, 0, [], [], []⟩ = some r) ∧ POwn (g + 1) g r wr ∧ Below g W4 wr) (fun v42 _ => rest.length - (intOf v42).toNat)
    case atStart => exact ⟨0, _, rfl, Nat.zero_le _, Lib.hid rfl, hP4, Below.refl _ _⟩
    case round =>
      obtain ⟨k, r, rfl, hk, hT, hPr, hb⟩ := hrel
      have hs5 := HBD.out r k hT.out
      have hresr := hres4.below hb (by omega)
      have hGr : Gr w wr := Below.trans hG4 (hb.mono (by omega))
      obtain ⟨z0, z1, z2, z3, z4, q0, q1, q2, q3, q4⟩ := five_cells5 hresr
      by_cases hlt : k < rest.length
      · obtain ⟨x, hxk⟩ : ∃ x, rest[k]? = some x := ⟨_, List.getElem?_eq_getElem hlt⟩
        have p0 := (hb.cell (p := ⟨w.heap.size + 1, 2 + k, none⟩) (by show w.heap.size + 1 < g; omega)).trans (hk4 k x hxk)
        have hxl : x.length ≤ 1000000 := by have := HRL.out k x hxk; omega
        cases hp : putP x r with
        | none =>
          have HZ := Lib.hid (HF0.out (HFN.out k x r hT.out hxk hp))
          have cP := put_no x r g wr hxl hp
          generalize wa x = sx at *
          clear hxk hp hT
          go_wp2_with (go_at_call 26; (with_reducible refine cP.mono ?_); rintro e w6 ⟨rfl, rfl⟩)
          all_goals (try (exfalso; omega))
          obtain ⟨z0, z1, z2, z3, z4, -⟩ := five_cells5 (hresr.put5 (y0 := .int .i64 0) (y1 := .int .i64 0) (y2 := .slice none 0 0) (y3 := .slice none 0 0) (y4 := .slice none 0 0))
          exact bodyPost_ret (v := .tuple #[.agg repZ, .int .i64 2]) (by simp [results, Tryd.results9, go_sem, z0, z1, z2, z3, z4]) rfl (HZ.out _ hGr)
        | some r' =>
          have HT2 : Hid (foldW putP (rest.take (k + 1)) ⟨n, 0, [], [], []⟩ = some r') := Lib.hid (by rw [HFS.out k x r hT.out hxk]; exact hp)
          have cP := put_some (g + 1) g wr hxl hPr (by omega) hp
          generalize wa x = sx at *
          clear hxk hp hT
          go_wp2_with (go_at_call 26; (with_reducible refine cP.mono ?_); rintro e w6 ⟨rfl, hP6, hb6⟩)
          all_goals (try (exfalso; omega))
          go_roundw
          case rel => exact ⟨k + 1, r', by go_num, hlt, HT2, hP6, Below.trans hb hb6⟩
          case measure => simp [intOf]; omega
      · obtain rfl : k = rest.length := by omega
        have hF := HFE.out r hT.out
        obtain ⟨hgb, hbs, v1, v2, v3, cs, hB, hR⟩ := hPr
        have hrd := hR.rd
        obtain ⟨A1, c1, rfl, -, -⟩ := own_formV hR.row1
        obtain ⟨A2, c2, rfl, -, -⟩ := own_formV hR.row2
        obtain ⟨A3, c3, rfl, -, -⟩ := own_formV hR.row3
        have hrw := hrd.mono (K' := (· < wr.heap.size)) fun _ h => h.2
        have cMr := HM.out wr _ r hrw hs5
        obtain ⟨s0, s1, s2, s3, s4⟩ := five_cells hB
        by_cases hm : mayR r
        · rw [decide_eq_true hm] at cMr
          by_cases ht : textO r = l
          · have HZ := Lib.hid (HF2.out r hF hm ht)
            have cTr := fun w5 (hb5 : Gr wr w5) => HT.out w5 _ r (Gr.trans hGr hb5) (hrw.gr hb5) hs5 hm
            rw [ht, HS.out] at cTr
            clear hF hT hk ht hm
            go_wp2_with (first
              | (go_at_call 27; (with_reducible refine cMr.mono ?_); rintro e w5 ⟨rfl, hb5⟩
                 obtain ⟨t0, t1, t2, t3, t4⟩ := five_cells (hB.below hb5 hB.lt))
              | (go_at_call 11; (with_reducible refine (cTr _ hb5).mono ?_); rintro e w6 ⟨rfl, hb6⟩
                 have hg6 := Gr.trans hb5 hb6
                 obtain ⟨x0, x1, x2, x3, x4⟩ := five_cells (hB.below hg6 hB.lt)
                 have hres6 := hresr.below hg6 hresr.lt
                 obtain ⟨y0, y1, y2, y3, y4, p0, p1, p2, p3, p4⟩ := five_cells5 hres6))
            all_goals (try (exfalso; omega))
            obtain ⟨z0, z1, z2, z3, z4, -⟩ := five_cells5 (hres6.put5 (y0 := .int .i64 r.err) (y1 := .int .i64 r.n) (y2 := .slice A1 r.nms.length c1) (y3 := .slice A2 r.held.length c2) (y4 := .slice A3 r.lst.length c3))
            exact bodyPost_ret (v := .tuple #[.agg #[.int .i64 r.err, .int .i64 r.n, .slice A1 r.nms.length c1, .slice A2 r.held.length c2, .slice A3 r.lst.length c3], .int .i64 0]) (by simp [results, Tryd.results9, go_sem, z0, z1, z2, z3, z4]) rfl (HZ.out _ _ _ _ _ _ ((hrd.keep fun p hp => hg6.cell hp.2).mono fun b hb => ⟨by have := hb.1; omega, Nat.lt_of_lt_of_le hb.2 hg6.size⟩) (Gr.trans hGr hg6))
          · have HZ := Lib.hid (HF1.out r hF fun h => ht h.2)
            have cTr := fun w5 (hb5 : Gr wr w5) => HT.out w5 _ r (Gr.trans hGr hb5) (hrw.gr hb5) hs5 hm
            have hne : wa (textO r) ≠ s := by rw [← HS.out]; exact fun h => ht (wa_inj h)
            obtain ⟨n1, n2⟩ := str_neqW hne
            generalize wa (textO r) = tt at *
            clear hF hT hk ht hm hne
            go_wp2_with (first
              | (go_at_call 27; (with_reducible refine cMr.mono ?_); rintro e w5 ⟨rfl, hb5⟩
                 obtain ⟨t0, t1, t2, t3, t4⟩ := five_cells (hB.below hb5 hB.lt))
              | (go_at_call 11; (with_reducible refine (cTr _ hb5).mono ?_); rintro e w6 ⟨rfl, hb6⟩
                 have hg6 := Gr.trans hb5 hb6
                 have hres6 := hresr.below hg6 hresr.lt
                 obtain ⟨y0, y1, y2, y3, y4, p0, p1, p2, p3, p4⟩ := five_cells5 hres6))
            all_goals (try (exfalso; omega))
            obtain ⟨z0, z1, z2, z3, z4, -⟩ := five_cells5 (hres6.put5 (y0 := .int .i64 0) (y1 := .int .i64 0) (y2 := .slice none 0 0) (y3 := .slice none 0 0) (y4 := .slice none 0 0))
            exact bodyPost_ret (v := .tuple #[.agg repZ, .int .i64 2]) (by simp [results, Tryd.results9, go_sem, z0, z1, z2, z3, z4]) rfl (HZ.out _ (Gr.trans hGr hg6))
        · rw [decide_eq_false hm] at cMr
          have HZ := Lib.hid (HF1.out r hF fun h => hm h.1)
          clear hF hT hk hm
          go_wp2_with (go_at_call 27; (with_reducible refine cMr.mono ?_); rintro e w5 ⟨rfl, hb5⟩
                       have hres6 := hresr.below hb5 hresr.lt
                       obtain ⟨y0, y1, y2, y3, y4, p0, p1, p2, p3, p4⟩ := five_cells5 hres6)
          all_goals (try (exfalso; omega))
          obtain ⟨z0, z1, z2, z3, z4, -⟩ := five_cells5 (hres6.put5 (y0 := .int .i64 0) (y1 := .int .i64 0) (y2 := .slice none 0 0) (y3 := .slice none 0 0) (y4 := .slice none 0 0))
          exact bodyPost_ret (v := .tuple #[.agg repZ, .int .i64 2]) (by simp [results, Tryd.results9, go_sem, z0, z1, z2, z3, z4]) rfl (HZ.out _ (Gr.trans hGr hb5))
set_option maxRecDepth 100000 in
set_option maxHeartbeats 16000000 in
theorem pparse_num (l : List UInt8) (w : World) (hV : WVars w) (hl : l.length ≤ 4000) (a b : List UInt8) (rest : List (List UInt8)) (he : splW l = a :: b :: rest) (n : Int) (hn : Lib.atoiAll b = .ok n) (ha : a ≠ bError) : Calls Tryd.prog 9 #[.string (wa l)] w (PParR (parseO candP l) w) := by
  have hp : parseO candP l = match foldW putP rest ⟨0, n, [], [], []⟩ with
      | none => (Rep.zero, 2)
      | some r => if mayR r ∧ textO r = l then (r, 0) else (Rep.zero, 2) := by
    unfold parseO
    rw [if_neg (by omega), he, candP, hn]
    dsimp only
    rw [if_neg ha]
    try (cases foldW putP rest ⟨0, n, [], [], []⟩ <;> rfl)
  have hF0 : foldW putP rest ⟨0, n, [], [], []⟩ = none → ∀ W, Gr w W → PParR (parseO candP l) w (.returned (.tuple #[.agg repZ, .int .i64 2])) (set5v W w.heap.size (.int .i64 0) (.int .i64 0) (.slice none 0 0) (.slice none 0 0) (.slice none 0 0)) := fun h W hg => PParR.zero (by rw [hp, h]) hg
  have hF1 : ∀ r, foldW putP rest ⟨0, n, [], [], []⟩ = some r → ¬ (mayR r ∧ textO r = l) → ∀ W, Gr w W → PParR (parseO candP l) w (.returned (.tuple #[.agg repZ, .int .i64 2])) (set5v W w.heap.size (.int .i64 0) (.int .i64 0) (.slice none 0 0) (.slice none 0 0) (.slice none 0 0)) := fun r h hm W hg => PParR.zero (by rw [hp, h]; dsimp only; rw [if_neg hm]) hg
  have hF2 : ∀ r, foldW putP rest ⟨0, n, [], [], []⟩ = some r → mayR r → textO r = l → ∀ W x0 x1 x2 x3 x4, RdRep W (fun b => w.heap.size + 1 ≤ b ∧ b < W.heap.size) r (.agg #[x0, x1, x2, x3, x4]) → Gr w W → PParR (parseO candP l) w (.returned (.tuple #[.agg #[x0, x1, x2, x3, x4], .int .i64 0])) (set5v W w.heap.size x0 x1 x2 x3 x4) := fun r h hm ht W x0 x1 x2 x3 x4 hr hg => PParR.done (by rw [hp, h]; dsimp only; rw [if_pos ⟨hm, ht⟩]) hr hg
  generalize PParR (parseO candP l) w = Post at *
  have cS := splitR_any l w (by omega) hV
  have hsz : (wa l).size = l.length := wa_size l
  have f1 : (wa l).size ≤ 4000 := by omega
  have hwl : ∀ x ∈ splW l, x.length ≤ 4000 := fun x hx => by have := (splW_len l).2 x hx; omega
  rw [he] at cS hwl
  have hsum := sum_spl l
  rw [he, sumO_cons, sumO_cons] at hsum
  have hrs : sumO rest ≤ 5000 := by omega
  have hz0 : szW ⟨0, n, [], [], []⟩ = 0 := rfl
  have hbd : ∀ (r : Rep) (k : Nat), foldW putP (rest.take k) ⟨0, n, [], [], []⟩ = some r → szW r ≤ 5000 := fun r k h => foldP_bound h hz0 hrs
  have hbl : b.length ≤ 4000 := hwl b (by simp)
  have cA := fun W => atoi_ok (wa b) n W (by rw [wa_size]; omega) (by rw [wa_data]; exact hn)
  have cM : ∀ W v r, RdRep W (· < W.heap.size) r v → szW r ≤ 5000 → Calls Tryd.prog 27 #[v] W fun e w' => e = .returned (.bool (decide (mayR r))) ∧ Gr W w' := fun W v r hr hs => pmayR_any r v W hr (fun a ha => by have := (sz_lens r).2.2.2.1 a ha; omega) (fun a ha => by have := (sz_lens r).2.2.2.2.1 a ha; omega)
  have cT : ∀ W v r, Gr w W → RdRep W (· < W.heap.size) r v → szW r ≤ 5000 → mayR r → Calls Tryd.prog 11 #[v] W fun e w' => e = .returned (.string (wa (textO r))) ∧ Gr W w' := fun W v r hg hr hs hm => by
    have hm' := hm
    obtain ⟨m1, m2, m3, m4, _⟩ := hm'
    exact ptextO_any r v W (hV.gr hg).1 hr (by omega) (by omega) (by omega) (by omega) (by have := textO_sz r (by omega) (by omega) (by omega) (by omega); omega)
  have hN2 : (a :: b :: rest).length = rest.length + 2 := rfl
  rw [hN2] at cS
  have hc0 := fun w1 (h : SplR w ((a :: b :: rest).map wa) w1) => row_cell h (k := 0) (x := a) rfl
  have hc1 := fun w1 (h : SplR w ((a :: b :: rest).map wa) w1) => row_cell h (k := 1) (x := b) rfl
  have hck := fun w1 (h : SplR w ((a :: b :: rest).map wa) w1) k x (hx : rest[k]? = some x) => row_cell h (k := k + 2) (x := x) hx
  have hrl : ∀ (k : Nat) (x : List UInt8), rest[k]? = some x → x.length ≤ 4000 := fun (k : Nat) (x : List UInt8) hx => hwl x (by have := List.mem_of_getElem? hx; simp [this])
  have hM : rest.length ≤ 5000 := by
    have : ∀ m : List (List UInt8), m.length ≤ sumO m := by
      intro m
      induction m with
      | nil => exact Nat.le_refl _
      | cons x m ih => rw [sumO_cons, List.length_cons]; omega
    have := this rest
    omega
  have n3 : ((wa a).toList == [101, 114, 114, 111, 114]) = false := by rw [beq_eq_false_iff_ne, ByteArray.toList_eq, wa_data]; exact ha
  clear ha
  clear hp he hwl hsum hn
  have hFN := fun k x r (h1 : foldW putP (rest.take k) ⟨0, n, [], [], []⟩ = some r) (h2 : rest[k]? = some x) (h3 : putP x r = none) => fold_fail h1 h2 h3
  have hFS := fun k x r (h1 : foldW putP (rest.take k) ⟨0, n, [], [], []⟩ = some r) (h2 : rest[k]? = some x) => fold_next h1 h2
  have hFE : ∀ r, foldW putP (rest.take rest.length) ⟨0, n, [], [], []⟩ = some r → foldW putP rest ⟨0, n, [], [], []⟩ = some r := fun r h => by rwa [List.take_length] at h
  have HF0 := Lib.hid hF0
  have HF1 := Lib.hid hF1
  have HF2 := Lib.hid hF2
  have HBD := Lib.hid hbd
  have HCK := Lib.hid hck
  have HRL := Lib.hid hrl
  have HFN := Lib.hid hFN
  have HFS := Lib.hid hFS
  have HFE := Lib.hid hFE
  have HM := Lib.hid cM
  have HT := Lib.hid cT
  have HSZ := Lib.hid hsz
  clear hF0 hF1 hF2 hbd hck hrl hFN hFS hFE cM cT hsz hrs hN2
  obtain ⟨s, hs⟩ : ∃ s, wa l = s := ⟨_, rfl⟩
  have HS := Lib.hid hs
  rw [hs] at cS f1 HSZ ⊢
  clear hs
  generalize wa b = sb at *
  generalize wa a = sa at *
  generalize (a :: b :: rest).map wa = ws at *
  rcases Nat.eq_zero_or_pos rest.length with hr0 | hr0
  · obtain rfl := List.eq_nil_of_length_eq_zero hr0
    clear hr0
    go_enter Tryd.func9, Tryd.ntmps9
    go_wp2_with (first
      | (go_at_call 24; (with_reducible refine cS.mono ?_); rintro e w1 ⟨rfl, hsp⟩
         have k1 := hc1 w1 hsp
         have z1 := hsp.size)
      | (go_at_call 25; (with_reducible refine (cA _).mono ?_); rintro e w2 ⟨rfl, hb2⟩
         have hres := hsp.res.below hb2 hsp.res.lt
         have z2 := hb2.size
         have k0 := (hb2.cell (p := ⟨w.heap.size + 1, 0, none⟩) (by show w.heap.size + 1 < _; omega)).trans (hc0 w1 hsp)
         have g3 := Gr.alloc w2 (.cells repZ 26)
         have k03 := (g3.cell (p := ⟨w.heap.size + 1, 0, none⟩) (by show w.heap.size + 1 < _; omega)).trans k0))
    all_goals (try (exfalso; omega))
    obtain ⟨W4, hW4⟩ : ∃ W4, w2.alloc (.cells #[.int .i64 0, .int .i64 n, .slice none 0 0, .slice none 0 0, .slice none 0 0] 26) = W4 := ⟨_, rfl⟩
    have hP4 : POwn (w2.heap.size + 1) w2.heap.size ⟨0, n, [], [], []⟩ W4 := by rw [← hW4]; exact ⟨Nat.lt_succ_self _, by simp, _, _, _, [], Blk.new _ _ _, PRows.nil _ _ _ _⟩
    have hres4 : Blk W4 w.heap.size 26 repZ := by rw [← hW4]; exact hres.alloc _
    have hG4 : Gr w W4 := by rw [← hW4]; exact Gr.trans (Gr.trans hsp.gr hb2) (Gr.alloc _ _)
    have hk4 : ∀ k x, ([] : List (List UInt8))[k]? = some x → W4.cell? ⟨w.heap.size + 1, 2 + k, none⟩ = some (.string (wa x)) := by
      intro k x hx
      rw [← hW4, (Gr.alloc w2 _).cell (p := ⟨w.heap.size + 1, 2 + k, none⟩) (by show w.heap.size + 1 < _; omega), hb2.cell (p := ⟨w.heap.size + 1, 2 + k, none⟩) (by show w.heap.size + 1 < _; omega), Nat.add_comm 2 k]
      exact HCK.out w1 hsp k x hx
    have hgw : w.heap.size + 1 < w2.heap.size := by omega
    rw [hW4]
    clear hW4 k0 k03 k1 hres hb2 hsp z1 z2 hc0 hc1 cS cA
    generalize w2.heap.size = g at *
    go_loopw [42] (fun v42 wr => ∃ (k : Nat) (r : Rep), v42 = .int .i64 (k : Int) ∧ k ≤ ([] : List (List UInt8)).length ∧ Hid (foldW putP (([] : List (List UInt8)).take k) ⟨0, n, [], [], []⟩ = some r) ∧ POwn (g + 1) g r wr ∧ Below g W4 wr) (fun v42 _ => ([] : List (List UInt8)).length - (intOf v42).toNat)
    case atStart => exact ⟨0, _, rfl, Nat.zero_le _, Lib.hid rfl, hP4, Below.refl _ _⟩
    case round =>
      obtain ⟨k, r, rfl, hk, hT, hPr, hb⟩ := hrel
      have hs5 := HBD.out r k hT.out
      have hresr := hres4.below hb (by omega)
      have hGr : Gr w wr := Below.trans hG4 (hb.mono (by omega))
      obtain ⟨z0, z1, z2, z3, z4, q0, q1, q2, q3, q4⟩ := five_cells5 hresr
      by_cases hlt : k < ([] : List (List UInt8)).length
      · exact absurd hlt (by simp)
      · obtain rfl : k = ([] : List (List UInt8)).length := by omega
        have hF := HFE.out r hT.out
        obtain ⟨hgb, hbs, v1, v2, v3, cs, hB, hR⟩ := hPr
        have hrd := hR.rd
        obtain ⟨A1, c1, rfl, -, -⟩ := own_formV hR.row1
        obtain ⟨A2, c2, rfl, -, -⟩ := own_formV hR.row2
        obtain ⟨A3, c3, rfl, -, -⟩ := own_formV hR.row3
        have hrw := hrd.mono (K' := (· < wr.heap.size)) fun _ h => h.2
        have cMr := HM.out wr _ r hrw hs5
        obtain ⟨s0, s1, s2, s3, s4⟩ := five_cells hB
        by_cases hm : mayR r
        · rw [decide_eq_true hm] at cMr
          by_cases ht : textO r = l
          · have HZ := Lib.hid (HF2.out r hF hm ht)
            have cTr := fun w5 (hb5 : Gr wr w5) => HT.out w5 _ r (Gr.trans hGr hb5) (hrw.gr hb5) hs5 hm
            rw [ht, HS.out] at cTr
            clear hF hT hk ht hm
            go_wp2_with (first
              | (go_at_call 27; (with_reducible refine cMr.mono ?_); rintro e w5 ⟨rfl, hb5⟩
                 obtain ⟨t0, t1, t2, t3, t4⟩ := five_cells (hB.below hb5 hB.lt))
              | (go_at_call 11; (with_reducible refine (cTr _ hb5).mono ?_); rintro e w6 ⟨rfl, hb6⟩
                 have hg6 := Gr.trans hb5 hb6
                 obtain ⟨x0, x1, x2, x3, x4⟩ := five_cells (hB.below hg6 hB.lt)
                 have hres6 := hresr.below hg6 hresr.lt
                 obtain ⟨y0, y1, y2, y3, y4, p0, p1, p2, p3, p4⟩ := five_cells5 hres6))
            all_goals (try (exfalso; omega))
            obtain ⟨z0, z1, z2, z3, z4, -⟩ := five_cells5 (hres6.put5 (y0 := .int .i64 r.err) (y1 := .int .i64 r.n) (y2 := .slice A1 r.nms.length c1) (y3 := .slice A2 r.held.length c2) (y4 := .slice A3 r.lst.length c3))
            exact bodyPost_ret (v := .tuple #[.agg #[.int .i64 r.err, .int .i64 r.n, .slice A1 r.nms.length c1, .slice A2 r.held.length c2, .slice A3 r.lst.length c3], .int .i64 0]) (by simp [results, Tryd.results9, go_sem, z0, z1, z2, z3, z4]) rfl (HZ.out _ _ _ _ _ _ ((hrd.keep fun p hp => hg6.cell hp.2).mono fun b hb => ⟨by have := hb.1; omega, Nat.lt_of_lt_of_le hb.2 hg6.size⟩) (Gr.trans hGr hg6))
          · have HZ := Lib.hid (HF1.out r hF fun h => ht h.2)
            have cTr := fun w5 (hb5 : Gr wr w5) => HT.out w5 _ r (Gr.trans hGr hb5) (hrw.gr hb5) hs5 hm
            have hne : wa (textO r) ≠ s := by rw [← HS.out]; exact fun h => ht (wa_inj h)
            obtain ⟨n1, n2⟩ := str_neqW hne
            generalize wa (textO r) = tt at *
            clear hF hT hk ht hm hne
            go_wp2_with (first
              | (go_at_call 27; (with_reducible refine cMr.mono ?_); rintro e w5 ⟨rfl, hb5⟩
                 obtain ⟨t0, t1, t2, t3, t4⟩ := five_cells (hB.below hb5 hB.lt))
              | (go_at_call 11; (with_reducible refine (cTr _ hb5).mono ?_); rintro e w6 ⟨rfl, hb6⟩
                 have hg6 := Gr.trans hb5 hb6
                 have hres6 := hresr.below hg6 hresr.lt
                 obtain ⟨y0, y1, y2, y3, y4, p0, p1, p2, p3, p4⟩ := five_cells5 hres6))
            all_goals (try (exfalso; omega))
            obtain ⟨z0, z1, z2, z3, z4, -⟩ := five_cells5 (hres6.put5 (y0 := .int .i64 0) (y1 := .int .i64 0) (y2 := .slice none 0 0) (y3 := .slice none 0 0) (y4 := .slice none 0 0))
            exact bodyPost_ret (v := .tuple #[.agg repZ, .int .i64 2]) (by simp [results, Tryd.results9, go_sem, z0, z1, z2, z3, z4]) rfl (HZ.out _ (Gr.trans hGr hg6))
        · rw [decide_eq_false hm] at cMr
          have HZ := Lib.hid (HF1.out r hF fun h => hm h.1)
          clear hF hT hk hm
          go_wp2_with (go_at_call 27; (with_reducible refine cMr.mono ?_); rintro e w5 ⟨rfl, hb5⟩
                       have hres6 := hresr.below hb5 hresr.lt
                       obtain ⟨y0, y1, y2, y3, y4, p0, p1, p2, p3, p4⟩ := five_cells5 hres6)
          all_goals (try (exfalso; omega))
          obtain ⟨z0, z1, z2, z3, z4, -⟩ := five_cells5 (hres6.put5 (y0 := .int .i64 0) (y1 := .int .i64 0) (y2 := .slice none 0 0) (y3 := .slice none 0 0) (y4 := .slice none 0 0))
          exact bodyPost_ret (v := .tuple #[.agg repZ, .int .i64 2]) (by simp [results, Tryd.results9, go_sem, z0, z1, z2, z3, z4]) rfl (HZ.out _ (Gr.trans hGr hb5))
  · go_enter Tryd.func9, Tryd.ntmps9
    go_wp2_with (first
      | (go_at_call 24; (with_reducible refine cS.mono ?_); rintro e w1 ⟨rfl, hsp⟩
         have k1 := hc1 w1 hsp
         have z1 := hsp.size)
      | (go_at_call 25; (with_reducible refine (cA _).mono ?_); rintro e w2 ⟨rfl, hb2⟩
         have hres := hsp.res.below hb2 hsp.res.lt
         have z2 := hb2.size
         have k0 := (hb2.cell (p := ⟨w.heap.size + 1, 0, none⟩) (by show w.heap.size + 1 < _; omega)).trans (hc0 w1 hsp)
         have g3 := Gr.alloc w2 (.cells repZ 26)
         have k03 := (g3.cell (p := ⟨w.heap.size + 1, 0, none⟩) (by show w.heap.size + 1 < _; omega)).trans k0))
    all_goals (try (exfalso; omega))
    obtain ⟨W4, hW4⟩ : ∃ W4, w2.alloc (.cells #[.int .i64 0, .int .i64 n, .slice none 0 0, .slice none 0 0, .slice none 0 0] 26) = W4 := ⟨_, rfl⟩
    have hP4 : POwn (w2.heap.size + 1) w2.heap.size ⟨0, n, [], [], []⟩ W4 := by rw [← hW4]; exact ⟨Nat.lt_succ_self _, by simp, _, _, _, [], Blk.new _ _ _, PRows.nil _ _ _ _⟩
    have hres4 : Blk W4 w.heap.size 26 repZ := by rw [← hW4]; exact hres.alloc _
    have hG4 : Gr w W4 := by rw [← hW4]; exact Gr.trans (Gr.trans hsp.gr hb2) (Gr.alloc _ _)
    have hk4 : ∀ k x, rest[k]? = some x → W4.cell? ⟨w.heap.size + 1, 2 + k, none⟩ = some (.string (wa x)) := by
      intro k x hx
      rw [← hW4, (Gr.alloc w2 _).cell (p := ⟨w.heap.size + 1, 2 + k, none⟩) (by show w.heap.size + 1 < _; omega), hb2.cell (p := ⟨w.heap.size + 1, 2 + k, none⟩) (by show w.heap.size + 1 < _; omega), Nat.add_comm 2 k]
      exact HCK.out w1 hsp k x hx
    have hgw : w.heap.size + 1 < w2.heap.size := by omega
    rw [hW4]
    clear hW4 k0 k03 k1 hres hb2 hsp z1 z2 hc0 hc1 cS cA
    generalize w2.heap.size = g at *
    go_loopw [42] (fun v42 wr => ∃ (k : Nat) (r : Rep), v42 = .int .i64 (k : Int) ∧ k ≤ rest.length ∧ Hid (foldW putP (rest.take k) ⟨0, n, [], [], []⟩ = some r) ∧ POwn (g + 1) g r wr ∧ Below g W4 wr) (fun v42 _ => rest.length - (intOf v42).toNat)
    case atStart => exact ⟨0, _, rfl, Nat.zero_le _, Lib.hid rfl, hP4, Below.refl _ _⟩
    case round =>
      obtain ⟨k, r, rfl, hk, hT, hPr, hb⟩ := hrel
      have hs5 := HBD.out r k hT.out
      have hresr := hres4.below hb (by omega)
      have hGr : Gr w wr := Below.trans hG4 (hb.mono (by omega))
      obtain ⟨z0, z1, z2, z3, z4, q0, q1, q2, q3, q4⟩ := five_cells5 hresr
      by_cases hlt : k < rest.length
      · obtain ⟨x, hxk⟩ : ∃ x, rest[k]? = some x := ⟨_, List.getElem?_eq_getElem hlt⟩
        have p0 := (hb.cell (p := ⟨w.heap.size + 1, 2 + k, none⟩) (by show w.heap.size + 1 < g; omega)).trans (hk4 k x hxk)
        have hxl : x.length ≤ 1000000 := by have := HRL.out k x hxk; omega
        cases hp : putP x r with
        | none =>
          have HZ := Lib.hid (HF0.out (HFN.out k x r hT.out hxk hp))
          have cP := put_no x r g wr hxl hp
          generalize wa x = sx at *
          clear hxk hp hT
          go_wp2_with (go_at_call 26; (with_reducible refine cP.mono ?_); rintro e w6 ⟨rfl, rfl⟩)
          all_goals (try (exfalso; omega))
          obtain ⟨z0, z1, z2, z3, z4, -⟩ := five_cells5 (hresr.put5 (y0 := .int .i64 0) (y1 := .int .i64 0) (y2 := .slice none 0 0) (y3 := .slice none 0 0) (y4 := .slice none 0 0))
          exact bodyPost_ret (v := .tuple #[.agg repZ, .int .i64 2]) (by simp [results, Tryd.results9, go_sem, z0, z1, z2, z3, z4]) rfl (HZ.out _ hGr)
        | some r' =>
          have HT2 : Hid (foldW putP (rest.take (k + 1)) ⟨0, n, [], [], []⟩ = some r') := Lib.hid (by rw [HFS.out k x r hT.out hxk]; exact hp)
          have cP := put_some (g + 1) g wr hxl hPr (by omega) hp
          generalize wa x = sx at *
          clear hxk hp hT
          go_wp2_with (go_at_call 26; (with_reducible refine cP.mono ?_); rintro e w6 ⟨rfl, hP6, hb6⟩)
          all_goals (try (exfalso; omega))
          go_roundw
          case rel => exact ⟨k + 1, r', by go_num, hlt, HT2, hP6, Below.trans hb hb6⟩
          case measure => simp [intOf]; omega
      · obtain rfl : k = rest.length := by omega
        have hF := HFE.out r hT.out
        obtain ⟨hgb, hbs, v1, v2, v3, cs, hB, hR⟩ := hPr
        have hrd := hR.rd
        obtain ⟨A1, c1, rfl, -, -⟩ := own_formV hR.row1
        obtain ⟨A2, c2, rfl, -, -⟩ := own_formV hR.row2
        obtain ⟨A3, c3, rfl, -, -⟩ := own_formV hR.row3
        have hrw := hrd.mono (K' := (· < wr.heap.size)) fun _ h => h.2
        have cMr := HM.out wr _ r hrw hs5
        obtain ⟨s0, s1, s2, s3, s4⟩ := five_cells hB
        by_cases hm : mayR r
        · rw [decide_eq_true hm] at cMr
          by_cases ht : textO r = l
          · have HZ := Lib.hid (HF2.out r hF hm ht)
            have cTr := fun w5 (hb5 : Gr wr w5) => HT.out w5 _ r (Gr.trans hGr hb5) (hrw.gr hb5) hs5 hm
            rw [ht, HS.out] at cTr
            clear hF hT hk ht hm
            go_wp2_with (first
              | (go_at_call 27; (with_reducible refine cMr.mono ?_); rintro e w5 ⟨rfl, hb5⟩
                 obtain ⟨t0, t1, t2, t3, t4⟩ := five_cells (hB.below hb5 hB.lt))
              | (go_at_call 11; (with_reducible refine (cTr _ hb5).mono ?_); rintro e w6 ⟨rfl, hb6⟩
                 have hg6 := Gr.trans hb5 hb6
                 obtain ⟨x0, x1, x2, x3, x4⟩ := five_cells (hB.below hg6 hB.lt)
                 have hres6 := hresr.below hg6 hresr.lt
                 obtain ⟨y0, y1, y2, y3, y4, p0, p1, p2, p3, p4⟩ := five_cells5 hres6))
            all_goals (try (exfalso; omega))
            obtain ⟨z0, z1, z2, z3, z4, -⟩ := five_cells5 (hres6.put5 (y0 := .int .i64 r.err) (y1 := .int .i64 r.n) (y2 := .slice A1 r.nms.length c1) (y3 := .slice A2 r.held.length c2) (y4 := .slice A3 r.lst.length c3))
            exact bodyPost_ret (v := .tuple #[.agg #[.int .i64 r.err, .int .i64 r.n, .slice A1 r.nms.length c1, .slice A2 r.held.length c2, .slice A3 r.lst.length c3], .int .i64 0]) (by simp [results, Tryd.results9, go_sem, z0, z1, z2, z3, z4]) rfl (HZ.out _ _ _ _ _ _ ((hrd.keep fun p hp => hg6.cell hp.2).mono fun b hb => ⟨by have := hb.1; omega, Nat.lt_of_lt_of_le hb.2 hg6.size⟩) (Gr.trans hGr hg6))
          · have HZ := Lib.hid (HF1.out r hF fun h => ht h.2)
            have cTr := fun w5 (hb5 : Gr wr w5) => HT.out w5 _ r (Gr.trans hGr hb5) (hrw.gr hb5) hs5 hm
            have hne : wa (textO r) ≠ s := by rw [← HS.out]; exact fun h => ht (wa_inj h)
            obtain ⟨n1, n2⟩ := str_neqW hne
            generalize wa (textO r) = tt at *
            clear hF hT hk ht hm hne
            go_wp2_with (first
              | (go_at_call 27; (with_reducible refine cMr.mono ?_); rintro e w5 ⟨rfl, hb5⟩
                 obtain ⟨t0, t1, t2, t3, t4⟩ := five_cells (hB.below hb5 hB.lt))
              | (go_at_call 11; (with_reducible refine (cTr _ hb5).mono ?_); rintro e w6 ⟨rfl, hb6⟩
                 have hg6 := Gr.trans hb5 hb6
                 have hres6 := hresr.below hg6 hresr.lt
                 obtain ⟨y0, y1, y2, y3, y4, p0, p1, p2, p3, p4⟩ := five_cells5 hres6))
            all_goals (try (exfalso; omega))
            obtain ⟨z0, z1, z2, z3, z4, -⟩ := five_cells5 (hres6.put5 (y0 := .int .i64 0) (y1 := .int .i64 0) (y2 := .slice none 0 0) (y3 := .slice none 0 0) (y4 := .slice none 0 0))
            exact bodyPost_ret (v := .tuple #[.agg repZ, .int .i64 2]) (by simp [results, Tryd.results9, go_sem, z0, z1, z2, z3, z4]) rfl (HZ.out _ (Gr.trans hGr hg6))
        · rw [decide_eq_false hm] at cMr
          have HZ := Lib.hid (HF1.out r hF fun h => hm h.1)
          clear hF hT hk hm
          go_wp2_with (go_at_call 27; (with_reducible refine cMr.mono ?_); rintro e w5 ⟨rfl, hb5⟩
                       have hres6 := hresr.below hb5 hresr.lt
                       obtain ⟨y0, y1, y2, y3, y4, p0, p1, p2, p3, p4⟩ := five_cells5 hres6)
          all_goals (try (exfalso; omega))
          obtain ⟨z0, z1, z2, z3, z4, -⟩ := five_cells5 (hres6.put5 (y0 := .int .i64 0) (y1 := .int .i64 0) (y2 := .slice none 0 0) (y3 := .slice none 0 0) (y4 := .slice none 0 0))
          exact bodyPost_ret (v := .tuple #[.agg repZ, .int .i64 2]) (by simp [results, Tryd.results9, go_sem, z0, z1, z2, z3, z4]) rfl (HZ.out _ (Gr.trans hGr hb5))
theorem pparse_any (l : List UInt8) (w : World) (hV : WVars w) (hl : l.length ≤ 5000) : Calls Tryd.prog 9 #[.string (wa l)] w (PParR (parseO candP l) w) := by
  by_cases h : 4000 < l.length
  · exact pparse_long l w hV hl h
  · by_cases h2 : (splW l).length < 2
    · exact pparse_few l w hV (by omega) h2
    · rcases e : splW l with _ | ⟨a, _ | ⟨b, r⟩⟩
      · rw [e] at h2; exact absurd (by simp) h2
      · rw [e] at h2; exact absurd (by simp) h2
      · cases hn : Lib.atoiAll b with
        | ok n =>
          by_cases ha : a = bError
          · exact pparse_err l w hV (by omega) a b r e n hn ha
          · exact pparse_num l w hV (by omega) a b r e n hn ha
        | _ => exact pparse_nan l w hV (by omega) a b r e (fun v h => by rw [hn] at h; cases h)
end Go.Proofs.YtppnlijeonneeaaDoor
