/- Disks in memory. -/
import Derived.Test.YtlbldmpiaebeeaaDoorDkC
import Derived.Test.YtlbldmpiaebeeaaDoorDkD
import Derived.Test.YtlbldmpiaebeeaaDoorDkK
namespace Go.Proofs.YtlbldmpiaebeeaaDoor
open Go Go.RowKit Go.Maps Go.MapKept Go.ChangeMaps

/-- The blocks of a disk that turn. -/
def DkS (g gs gm : Nat) : Nat → Prop := fun k => k = g ∨ k = gs ∨ k = gm
/-- A disk at block g: its row of sectors at gs, its map at gm; the sectors' bytes lie in K. -/
structure DkAt (w : World) (K : Nat → Prop) (g gs gm n m : Nat) (d : Dk) : Prop where
  kk : ∀ b, K b → b < w.heap.size ∧ ¬ DkS g gs gm b
  ne : g ≠ gs ∧ g ≠ gm ∧ gs ≠ gm
  len : d.safe.length = n ∧ d.wait.length = n ∧ n ≤ 1024
  fz : -1 ≤ d.fuse ∧ d.fuse ≤ 9223372036854775807
  top : ∃ c acts, n ≤ c ∧ c ≤ maxLen ∧ Blk w g 61 #[.slice (some ⟨gs, 0, none⟩) n c, .map (some gm), .int .i64 d.fuse, .int .i64 acts, .bool d.dead]
  row : ∃ cs, Blk w gs 22 cs ∧ ∀ (i : Nat) l, d.safe[i]? = some l → ∃ v, cs[i]? = some v ∧ RkB w K v l
  map : ∃ f, MapI Tryd.prog 3 w gm m n f ∧ ∀ i, i < n → (f i = none ∧ d.wait[i]? = some none) ∨ ∃ v l, f i = some v ∧ d.wait[i]? = some (some l) ∧ RkB w K v l
section
variable {w w' : World} {K K' : Nat → Prop} {g gs gm n m : Nat} {d : Dk}
theorem DkAt.lt (h : DkAt w K g gs gm n m d) : ∀ k, DkS g gs gm k → k < w.heap.size := by
  obtain ⟨c, a, _, _, hb⟩ := h.top
  obtain ⟨cs, hs, _⟩ := h.row
  obtain ⟨f, hm, _⟩ := h.map
  rintro k (rfl | rfl | rfl)
  · exact hb.lt
  · exact hs.lt
  · exact hm.lt
/-- Nothing of the disk has turned. -/
theorem DkAt.keep (h : DkAt w K g gs gm n m d) (hs : w.heap.size ≤ w'.heap.size) (hb : ∀ k, k < w.heap.size → (DkS g gs gm k ∨ K k) → w'.heap[k]? = w.heap[k]?) : DkAt w' K g gs gm n m d := by
  have hlt := h.lt
  have hK : ∀ p : Addr, K p.block → w'.cell? p = w.cell? p := fun p hp => World.cell?_of_block (hb _ (h.kk _ hp).1 (.inr hp))
  refine ⟨fun b hk => ⟨Nat.lt_of_lt_of_le (h.kk b hk).1 hs, (h.kk b hk).2⟩, h.ne, h.len, h.fz, ?_, ?_, ?_⟩
  · obtain ⟨c, a, h1, h2, h3⟩ := h.top
    exact ⟨c, a, h1, h2, (hb g (hlt g (.inl rfl)) (.inl (.inl rfl))).trans h3⟩
  · obtain ⟨cs, h1, h2⟩ := h.row
    refine ⟨cs, (hb gs (hlt gs (.inr (.inl rfl))) (.inl (.inr (.inl rfl)))).trans h1, fun i l hl => ?_⟩
    obtain ⟨v, hv, hr⟩ := h2 i l hl
    exact ⟨v, hv, hr.keep hK⟩
  · obtain ⟨f, h1, h2⟩ := h.map
    refine ⟨f, h1.kept (hb gm (hlt gm (.inr (.inr rfl))) (.inl (.inr (.inr rfl)))), fun i hi => ?_⟩
    rcases h2 i hi with h3 | ⟨v, l, h3, h4, hr⟩
    · exact .inl h3
    · exact .inr ⟨v, l, h3, h4, hr.keep hK⟩
theorem DkAt.gr (h : DkAt w K g gs gm n m d) (hg : Below w.heap.size w w') : DkAt w' K g gs gm n m d := h.keep hg.size fun k hk _ => hg.block k hk
theorem DkAt.but {S : Nat → Prop} (h : DkAt w K g gs gm n m d) (hg : But S w w') (hS : ∀ k, S k → ¬ DkS g gs gm k ∧ ¬ K k) : DkAt w' K g gs gm n m d :=
  h.keep hg.size fun k hk hd => hg.block k hk fun hs => hd.elim (hS k hs).1 (hS k hs).2
theorem DkAt.mono (h : DkAt w K g gs gm n m d) {m' : Nat} (hm : m ≤ m') : DkAt w K g gs gm n m' d := by
  refine ⟨h.kk, h.ne, h.len, h.fz, h.top, h.row, ?_⟩
  obtain ⟨f, ⟨D, h1, h3⟩, h2⟩ := h.map
  exact ⟨f, ⟨D, h1.mono hm, h3⟩, h2⟩
theorem DkAt.wide (h : DkAt w K g gs gm n m d) (hk : ∀ b, K b → K' b) (hk' : ∀ b, K' b → b < w.heap.size ∧ ¬ DkS g gs gm b) : DkAt w K' g gs gm n m d := by
  refine ⟨hk', h.ne, h.len, h.fz, h.top, ?_, ?_⟩
  · obtain ⟨cs, h1, h2⟩ := h.row
    refine ⟨cs, h1, fun i l hl => ?_⟩
    obtain ⟨v, hv, hr⟩ := h2 i l hl
    exact ⟨v, hv, hr.mono hk⟩
  · obtain ⟨f, h1, h2⟩ := h.map
    refine ⟨f, h1, fun i hi => ?_⟩
    rcases h2 i hi with h3 | ⟨v, l, h3, h4, hr⟩
    · exact .inl h3
    · exact .inr ⟨v, l, h3, h4, hr.mono hk⟩
/-- The struct itself was written over. -/
theorem DkAt.set_top (h : DkAt w K g gs gm n m d) (hb : But (· = g) w w') (f : Int) (hf : -1 ≤ f ∧ f ≤ 9223372036854775807) (dead : Bool) {c : Nat} {a : Int} (hc : n ≤ c ∧ c ≤ maxLen)
    (hB : Blk w' g 61 #[.slice (some ⟨gs, 0, none⟩) n c, .map (some gm), .int .i64 f, .int .i64 a, .bool dead]) : DkAt w' K g gs gm n m { d with fuse := f, dead := dead } := by
  have hlt := h.lt
  have hK : ∀ p : Addr, K p.block → w'.cell? p = w.cell? p := fun p hp => hb.cell (h.kk _ hp).1 fun e => (h.kk _ hp).2 (.inl e)
  refine ⟨fun b hk => ⟨Nat.lt_of_lt_of_le (h.kk b hk).1 hb.size, (h.kk b hk).2⟩, h.ne, h.len, hf, ⟨c, a, hc.1, hc.2, hB⟩, ?_, ?_⟩
  · obtain ⟨cs, h1, h2⟩ := h.row
    refine ⟨cs, hb.blk h1 (fun e => h.ne.1 e.symm), fun i l hl => ?_⟩
    obtain ⟨v, hv, hr⟩ := h2 i l hl
    exact ⟨v, hv, hr.keep hK⟩
  · obtain ⟨f, h1, h2⟩ := h.map
    refine ⟨f, h1.kept (hb.block gm (hlt gm (.inr (.inr rfl))) (fun e => h.ne.2.1 e.symm)), fun i hi => ?_⟩
    rcases h2 i hi with h3 | ⟨v, l, h3, h4, hr⟩
    · exact .inl h3
    · exact .inr ⟨v, l, h3, h4, hr.keep hK⟩
/-- What the map and the row hold. -/
def MapOk (w : World) (K : Nat → Prop) (n : Nat) (d : Dk) (f : Nat → Option Value) : Prop := ∀ i, i < n → (f i = none ∧ d.wait[i]? = some none) ∨ ∃ v l, f i = some v ∧ d.wait[i]? = some (some l) ∧ RkB w K v l
def RowOk (w : World) (K : Nat → Prop) (d : Dk) (cs : Array Value) : Prop := ∀ (i : Nat) l, d.safe[i]? = some l → ∃ v, cs[i]? = some v ∧ RkB w K v l
/-- A sector was written to the cache. -/
theorem DkAt.put (h : DkAt w K g gs gm n m d) (hg : w.grownBy w' (some gm)) {f : Nat → Option Value} (hf : MapOk w K n d f) {i : Nat} {v : Value} {l : List UInt8} (hi : i < n) (hm : MapI Tryd.prog 3 w' gm (m + 1) n fun j => if j = i then some v else f j)
    (hr : RkB w K v l) : DkAt w' K g gs gm n (m + 1) (d.put i l) := by
  have hK : ∀ p : Addr, K p.block → w'.cell? p = w.cell? p := fun p hp => World.cell?_of_block (hg.block _ (h.kk _ hp).1 fun e => (h.kk _ hp).2 (.inr (.inr (by injection e))))
  have hlt := h.lt
  refine ⟨fun b hk => ⟨Nat.lt_of_lt_of_le (h.kk b hk).1 hg.size, (h.kk b hk).2⟩, h.ne, ⟨h.len.1, by unfold Dk.put; rw [List.length_set]; exact h.len.2.1, h.len.2.2⟩, h.fz, ?_, ?_, ⟨_, hm, fun j hj => ?_⟩⟩
  · obtain ⟨c, a, h1, h2, h3⟩ := h.top
    exact ⟨c, a, h1, h2, (hg.block g (hlt g (.inl rfl)) (fun e => h.ne.2.1 (by injection e))).trans h3⟩
  · obtain ⟨cs, h1, h2⟩ := h.row
    refine ⟨cs, (hg.block gs (hlt gs (.inr (.inl rfl))) (fun e => h.ne.2.2 (by injection e))).trans h1, fun j u hu => ?_⟩
    obtain ⟨v, hv, hr⟩ := h2 j u hu
    exact ⟨v, hv, hr.keep hK⟩
  · have hw : i < d.wait.length := by rw [h.len.2.1]; exact hi
    by_cases e : j = i
    · subst e
      right
      exact ⟨v, l, if_pos rfl, by unfold Dk.put; rw [List.getElem?_set_self hw], hr.keep hK⟩
    · unfold Dk.put
      dsimp only
      rw [if_neg e, List.getElem?_set_ne (fun h => e h.symm)]
      rcases hf j hj with h3 | ⟨u, q, h3, h4, hq⟩
      · exact .inl h3
      · exact .inr ⟨u, q, h3, h4, hq.keep hK⟩
theorem MapOk.isSome {f : Nat → Option Value} (h : MapOk w K n d f) (i : Nat) (hi : i < n) : (f i).isSome = (d.wait.getD i none).isSome := by
  rw [List.getD_eq_getElem?_getD]
  rcases h i hi with ⟨h1, h2⟩ | ⟨v, l, h1, h2, _⟩
  · rw [h1, h2]; rfl
  · rw [h1, h2]; rfl
/-- The cache was flushed: the row holds what the map held. -/
theorem DkAt.flushed (h : DkAt w K g gs gm n m d) (hb : But (DkS g gs gm) w w') {f : Nat → Option Value} (hf : MapOk w K n d f) {cs cs' : Array Value} (hc : RowOk w K d cs) (hB : Blk w' gs 22 cs') (hcs : ∀ j, j < n → cs'[j]? = (match f j with | some v => some v | none => cs[j]?))
    (hm : MapI Tryd.prog 3 w' gm 0 n fun _ => none) (ht : w'.heap[g]? = w.heap[g]?) : DkAt w' K g gs gm n 0 d.flushed := by
  have hK : ∀ p : Addr, K p.block → w'.cell? p = w.cell? p := fun p hp => hb.cell (h.kk _ hp).1 (h.kk _ hp).2
  have hl1 := h.len.1
  have hl2 := h.len.2.1
  refine ⟨fun b hk => ⟨Nat.lt_of_lt_of_le (h.kk b hk).1 hb.size, (h.kk b hk).2⟩, h.ne, ⟨?_, ?_, h.len.2.2⟩, h.fz, ?_, ⟨cs', hB, fun j u hu => ?_⟩, ⟨_, hm, fun j hj => .inl ⟨rfl, ?_⟩⟩⟩
  · unfold Dk.flushed
    dsimp only
    rw [List.length_zipWith, hl1, hl2, Nat.min_self]
  · unfold Dk.flushed
    dsimp only
    rw [List.length_map, hl2]
  · obtain ⟨c, a, h1, h2, h3⟩ := h.top
    exact ⟨c, a, h1, h2, ht.trans h3⟩
  · unfold Dk.flushed at hu
    dsimp only at hu
    rw [List.getElem?_zipWith] at hu
    have hj : j < n := by
      rcases Nat.lt_or_ge j n with h1 | h1
      · exact h1
      · rw [List.getElem?_eq_none (by omega : d.safe.length ≤ j)] at hu
        cases hu
    rw [hcs j hj]
    have hs : d.safe[j]? = some d.safe[j] := List.getElem?_eq_getElem (by omega)
    rcases hf j hj with ⟨h1, h2⟩ | ⟨v, l, h1, h2, hq⟩
    · rw [h1]
      rw [hs, h2] at hu
      simp only [Option.some.injEq] at hu
      obtain ⟨v, hv, hr⟩ := hc j _ hs
      exact ⟨v, hv, hu ▸ hr.keep hK⟩
    · rw [h1]
      rw [hs, h2] at hu
      simp only [Option.some.injEq] at hu
      exact ⟨v, rfl, hu ▸ hq.keep hK⟩
  · unfold Dk.flushed
    dsimp only
    rw [List.getElem?_map, List.getElem?_eq_getElem (by omega)]
    rfl
/-- The power went, and came: the row holds what was to stay. -/
theorem DkAt.crashed (h : DkAt w K g gs gm n m d) (hb : But (DkS g gs gm) w w') {f : Nat → Option Value} (hf : MapOk w K n d f) {cs cs' : Array Value} (hc : RowOk w K d cs) (keep : List Bool) (hB : Blk w' gs 22 cs')
    (hcs : ∀ j, j < n → cs'[j]? = (match f j with | some v => if keep.getD (rankS d.wait j) false then some v else cs[j]? | none => cs[j]?))
    (hm : MapI Tryd.prog 3 w' gm 0 n fun _ => none) {c : Nat} {a : Int} (hcn : n ≤ c ∧ c ≤ maxLen) (ht : Blk w' g 61 #[.slice (some ⟨gs, 0, none⟩) n c, .map (some gm), .int .i64 (-1), .int .i64 a, .bool false]) : DkAt w' K g gs gm n 0 (d.crash keep) := by
  have hK : ∀ p : Addr, K p.block → w'.cell? p = w.cell? p := fun p hp => hb.cell (h.kk _ hp).1 (h.kk _ hp).2
  have hl1 := h.len.1
  have hl2 := h.len.2.1
  refine ⟨fun b hk => ⟨Nat.lt_of_lt_of_le (h.kk b hk).1 hb.size, (h.kk b hk).2⟩, h.ne, ⟨?_, ?_, h.len.2.2⟩, ⟨Int.le_refl _, by show (-1 : Int) ≤ 9223372036854775807; decide⟩, ⟨c, a, hcn.1, hcn.2, ht⟩, ⟨cs', hB, fun j u hu => ?_⟩, ⟨_, hm, fun j hj => .inl ⟨rfl, ?_⟩⟩⟩
  · unfold Dk.crash
    dsimp only
    rw [keepS_len, hl1]
  · unfold Dk.crash
    dsimp only
    rw [List.length_map, hl2]
  · unfold Dk.crash at hu
    dsimp only at hu
    rw [keepS_rank keep d.safe d.wait 0 j (by omega), Nat.zero_add] at hu
    have hj : j < n := by
      rcases Nat.lt_or_ge j n with h1 | h1
      · exact h1
      · rw [List.getElem?_eq_none (by omega : d.wait.length ≤ j), List.getElem?_eq_none (by omega : d.safe.length ≤ j)] at hu
        cases hu
    rw [hcs j hj]
    have hs : d.safe[j]? = some d.safe[j] := List.getElem?_eq_getElem (by omega)
    rcases hf j hj with ⟨h1, h2⟩ | ⟨v, l, h1, h2, hq⟩
    · rw [h1]
      rw [h2] at hu
      obtain ⟨v, hv, hr⟩ := hc j _ hu
      exact ⟨v, hv, hr.keep hK⟩
    · rw [h1]
      rw [h2] at hu
      dsimp only at hu ⊢
      by_cases hkp : keep.getD (rankS d.wait j) false = true
      · rw [if_pos hkp] at hu ⊢
        injection hu with hu
        exact ⟨v, rfl, hu ▸ hq.keep hK⟩
      · rw [if_neg hkp] at hu ⊢
        obtain ⟨v, hv, hr⟩ := hc j _ hu
        exact ⟨v, hv, hr.keep hK⟩
  · unfold Dk.crash
    dsimp only
    rw [List.getElem?_map, List.getElem?_eq_getElem (by omega)]
    rfl
end
end Go.Proofs.YtlbldmpiaebeeaaDoor
