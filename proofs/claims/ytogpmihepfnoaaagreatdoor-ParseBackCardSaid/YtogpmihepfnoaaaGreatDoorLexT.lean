/- Lists of words in memory. -/
import Derived.Test.YtogpmihepfnoaaaGreatDoorLexP
import Derived.Test.YtogpmihepfnoaaaGreatDoorBytes
namespace Go.Proofs.YtogpmihepfnoaaaGreatDoor
open Go Go.RowKit

def tkCells (t : Tk) : List Value := [.int .i64 t.kind, .string t.text, .int .i64 t.n, .int .i64 t.at_]
theorem tkCells_len (l : List Tk) : (l.flatMap tkCells).length = l.length * 4 := by
  induction l with
  | nil => rfl
  | cons t r ih => rw [List.flatMap_cons, List.length_append, ih, List.length_cons]; show 4 + _ = _; omega
theorem tkCells_one (t : Tk) : ∀ u ∈ tkCells t, u.oneCell' = true := by
  intro u hu
  simp only [tkCells, List.mem_cons, List.not_mem_nil, or_false] at hu
  rcases hu with rfl | rfl | rfl | rfl <;> rfl
/-- A cell of a word. -/
theorem tkCells_at : ∀ (l : List Tk) (k : Nat) (t : Tk), l[k]? = some t → ∀ j u, (tkCells t)[j]? = some u → (l.flatMap tkCells)[k * 4 + j]? = some u
  | [], k, t, h, _, _, _ => by simp at h
  | x :: r, 0, t, h, j, u, hu => by
    simp only [List.getElem?_cons_zero, Option.some.injEq] at h
    subst h
    have hj : j < (tkCells x).length := (List.getElem?_eq_some_iff.1 hu).1
    rw [List.flatMap_cons, List.getElem?_append_left (by omega), Nat.zero_mul, Nat.zero_add]
    exact hu
  | x :: r, k + 1, t, h, j, u, hu => by
    simp only [List.getElem?_cons_succ] at h
    have hl : (tkCells x).length = 4 := rfl
    rw [List.flatMap_cons, List.getElem?_append_right (by omega), hl, show (k + 1) * 4 + j - 4 = k * 4 + j by omega]
    exact tkCells_at r k t h j u hu
/-- A slice of words. -/
def RdTks (w : World) (B : Nat) (v : Value) (ts : List Tk) : Prop := ∃ A c, v = .slice A ts.length c ∧ ts.length ≤ c ∧ Reads w B 4 A ts.length (ts.flatMap tkCells)
theorem RdTks.nil (w : World) (B : Nat) : RdTks w B (.slice none 0 0) [] := ⟨none, 0, rfl, Nat.le_refl _, Reads.none_⟩
theorem RdTks.gr {w w' : World} {B : Nat} {v : Value} {ts : List Tk} (h : RdTks w B v ts) (hB : B ≤ w.heap.size) (hg : Gr w w') : RdTks w' B v ts := by
  obtain ⟨A, c, e, hc, hr⟩ := h
  exact ⟨A, c, e, hc, hr.keep fun p hp => hg.cell (by omega)⟩
theorem RdTks.more {w : World} {B B' : Nat} {v : Value} {ts : List Tk} (h : RdTks w B v ts) (hB : B ≤ B') : RdTks w B' v ts := by
  obtain ⟨A, c, e, hc, hr⟩ := h
  exact ⟨A, c, e, hc, hr.more hB⟩
theorem ownsRow_gr' {w w' : World} {base e size n : Nat} {v : Value} {xs : List Value} (h : w.ownsRow base e size v n xs) (hg : Gr w w') : w'.ownsRow base e size v n xs := ownsRow_gr h hg

/-- A row of the call's own that holds these words. -/
def OwnT (w : World) (base : Nat) (v : Value) (ts : List Tk) : Prop := w.ownsRow base 73 4 v ts.length (ts.flatMap tkCells)
theorem OwnT.nil (w : World) (base : Nat) : OwnT w base (.slice none 0 0) [] := ⟨rfl, .inl ⟨rfl, rfl⟩⟩
theorem OwnT.gr {w w' : World} {base : Nat} {v : Value} {ts : List Tk} (h : OwnT w base v ts) (hg : Gr w w') : OwnT w' base v ts := ownsRow_gr h hg
theorem OwnT.rd {w : World} {base : Nat} {v : Value} {ts : List Tk} (h : OwnT w base v ts) : RdTks w w.heap.size v ts := by
  rcases h.2 with ⟨rfl, h0⟩ | ⟨g, cap, cur, rfl, e2, e3, e4, e5⟩
  · obtain rfl : ts = [] := List.eq_nil_of_length_eq_zero h0
    exact RdTks.nil w _
  · exact ⟨some ⟨g, 0, none⟩, cap, rfl, e4, Reads.of_own h⟩
theorem infoT : (Tryz.prog.info? 73).map (fun i => (i.zero, i.size, i.bytes)) = some (some (.agg #[.int .i64 0, .string ⟨#[]⟩, .int .i64 0, .int .i64 0]), 4, 40) := by kernel_rfl
theorem wpList_appendT {ops : Array Oper} {rest : List Oper} {o : Oper} {a : Act} {Q : Exit → Act → World → Prop} (w : World) (hgd : o.guard = none) (s y : Operand)
    (ho : o.op = .call { callee := .builtin .append, args := #[s, y], argTypes := #[53, 53] }) (base : Nat) (v : Value) (ts : List Tk) (hs : a.eval s = v) (hown : OwnT w base v ts)
    (t : Tk) (ar : Array Value) (gb : Nat) (hx : a.eval y = .slice (some ⟨gb, 0, none⟩) 1 1) (hB : Blk w gb 73 ar) (har : ar.toList = tkCells t) (hlen : ts.length ≤ 100000) (hbase : base ≤ w.heap.size)
    (h : ∀ v' w', OwnT w' base v' (ts ++ [t]) → Below base w w' → wpList Tryz.prog ops Q rest (a.put o.dst v') w') : wpList Tryz.prog ops Q (o :: rest) a w := by
  have hu := infoT
  cases hi : Tryz.prog.info? 73 with
  | none => rw [hi] at hu; cases hu
  | some i =>
    rw [hi] at hu
    simp only [Option.map_some, Option.some.injEq, Prod.mk.injEq] at hu
    obtain ⟨hz, hsz, hb⟩ := hu
    have hR : Reads w w.heap.size 4 (some ⟨gb, 0, none⟩) 1 (tkCells t) := by
      refine ⟨rfl, fun _ => ⟨_, rfl, hB.lt, fun j u hu => ?_⟩⟩
      have e : (⟨gb, 0, none⟩ : Addr).add j = ⟨gb, j, none⟩ := by
        unfold Addr.add
        split
        · rename_i h0; simp_all
        · simp
      rw [e, hB.cell j, ← Array.getElem?_toList, har, hu]
    refine wpList_append_any (P := Tryz.prog) w hgd s y 53 ho base 73 i _ 4 40 (by kernel_rfl) hi hz hsz hb rfl (by omega) v ts.length _ hs hown w.heap.size _ 1 1 _ hx hR (tkCells_one t) (by unfold maxLen; omega) (by omega) hbase ?_
    intro v' w' hown' hg _
    refine h v' w' ?_ ?_
    · unfold OwnT
      rw [List.length_append, List.flatMap_append]
      simpa using hown'
    · refine (Below.refl base w).grown hg hbase fun k hk => ?_
      rcases hown.2 with ⟨rfl, _⟩ | ⟨g, cap, cur, rfl, e2, _⟩
      · simp [Value.ownBlock] at hk
      · simp [Value.ownBlock] at hk
        omega

/-- A row of the call's own that holds these words. -/
def OwnU (w : World) (base : Nat) (v : Value) (ts : List Tk) : Prop := w.ownsRow base 82 4 v ts.length (ts.flatMap tkCells)
theorem OwnU.nil (w : World) (base : Nat) : OwnU w base (.slice none 0 0) [] := ⟨rfl, .inl ⟨rfl, rfl⟩⟩
theorem OwnU.gr {w w' : World} {base : Nat} {v : Value} {ts : List Tk} (h : OwnU w base v ts) (hg : Gr w w') : OwnU w' base v ts := ownsRow_gr h hg
theorem OwnU.rd {w : World} {base : Nat} {v : Value} {ts : List Tk} (h : OwnU w base v ts) : RdTks w w.heap.size v ts := by
  rcases h.2 with ⟨rfl, h0⟩ | ⟨g, cap, cur, rfl, e2, e3, e4, e5⟩
  · obtain rfl : ts = [] := List.eq_nil_of_length_eq_zero h0
    exact RdTks.nil w _
  · exact ⟨some ⟨g, 0, none⟩, cap, rfl, e4, Reads.of_own h⟩
theorem infoU : (Tryz.prog.info? 82).map (fun i => (i.zero, i.size, i.bytes)) = some (some (.agg #[.int .i64 0, .string ⟨#[]⟩, .int .i64 0, .int .i64 0]), 4, 40) := by kernel_rfl
theorem wpList_appendU {ops : Array Oper} {rest : List Oper} {o : Oper} {a : Act} {Q : Exit → Act → World → Prop} (w : World) (hgd : o.guard = none) (s y : Operand)
    (ho : o.op = .call { callee := .builtin .append, args := #[s, y], argTypes := #[62, 62] }) (base : Nat) (v : Value) (ts : List Tk) (hs : a.eval s = v) (hown : OwnU w base v ts)
    (t : Tk) (ar : Array Value) (gb : Nat) (hx : a.eval y = .slice (some ⟨gb, 0, none⟩) 1 1) (hB : Blk w gb 82 ar) (har : ar.toList = tkCells t) (hlen : ts.length ≤ 100000) (hbase : base ≤ w.heap.size)
    (h : ∀ v' w', OwnU w' base v' (ts ++ [t]) → Below base w w' → wpList Tryz.prog ops Q rest (a.put o.dst v') w') : wpList Tryz.prog ops Q (o :: rest) a w := by
  have hu := infoU
  cases hi : Tryz.prog.info? 82 with
  | none => rw [hi] at hu; cases hu
  | some i =>
    rw [hi] at hu
    simp only [Option.map_some, Option.some.injEq, Prod.mk.injEq] at hu
    obtain ⟨hz, hsz, hb⟩ := hu
    have hR : Reads w w.heap.size 4 (some ⟨gb, 0, none⟩) 1 (tkCells t) := by
      refine ⟨rfl, fun _ => ⟨_, rfl, hB.lt, fun j u hu => ?_⟩⟩
      have e : (⟨gb, 0, none⟩ : Addr).add j = ⟨gb, j, none⟩ := by
        unfold Addr.add
        split
        · rename_i h0; simp_all
        · simp
      rw [e, hB.cell j, ← Array.getElem?_toList, har, hu]
    refine wpList_append_any (P := Tryz.prog) w hgd s y 62 ho base 82 i _ 4 40 (by kernel_rfl) hi hz hsz hb rfl (by omega) v ts.length _ hs hown w.heap.size _ 1 1 _ hx hR (tkCells_one t) (by unfold maxLen; omega) (by omega) hbase ?_
    intro v' w' hown' hg _
    refine h v' w' ?_ ?_
    · unfold OwnU
      rw [List.length_append, List.flatMap_append]
      simpa using hown'
    · refine (Below.refl base w).grown hg hbase fun k hk => ?_
      rcases hown.2 with ⟨rfl, _⟩ | ⟨g, cap, cur, rfl, e2, _⟩
      · simp [Value.ownBlock] at hk
      · simp [Value.ownBlock] at hk
        omega
end Go.Proofs.YtogpmihepfnoaaaGreatDoor
