/- Lists of commands in memory; appending one. -/
import Derived.Test.YteoidkjiigjlaaaDoorGenP
import Derived.Test.YteoidkjiigjlaaaDoorRdNum
namespace Go.Proofs.YteoidkjiigjlaaaDoor
open Go Go.RowKit

/-- Commands, their cells one behind the other. -/
def CmsL (w : World) (K : Nat → Prop) : List Cm → List Value → Prop
  | [], cs => cs = []
  | x :: xs, cs => ∃ (a : Array Value) (r : List Value), cs = a.toList ++ r ∧ a.size = 14 ∧ RdCm w K x (.agg a) ∧ CmsL w K xs r
theorem CmsL.keep {w w' : World} {K : Nat → Prop} (hk : ∀ p : Addr, K p.block → w'.cell? p = w.cell? p) : ∀ (xs : List Cm) (cs : List Value), CmsL w K xs cs → CmsL w' K xs cs
  | [], _, h => h
  | _ :: xs, _, ⟨a, r, e, hs, hx, hl⟩ => ⟨a, r, e, hs, hx.keep hk, CmsL.keep hk xs r hl⟩
theorem CmsL.mono {w : World} {K K' : Nat → Prop} (hk : ∀ b, K b → K' b) : ∀ (xs : List Cm) (cs : List Value), CmsL w K xs cs → CmsL w K' xs cs
  | [], _, h => h
  | _ :: xs, _, ⟨a, r, e, hs, hx, hl⟩ => ⟨a, r, e, hs, hx.mono hk, CmsL.mono hk xs r hl⟩
theorem CmsL.snoc {w : World} {K : Nat → Prop} {x : Cm} {a : Array Value} (hx : RdCm w K x (.agg a)) (ha : a.size = 14) : ∀ (xs : List Cm) (cs : List Value), CmsL w K xs cs → CmsL w K (xs ++ [x]) (cs ++ a.toList)
  | [], _, h => by
    obtain rfl := h
    exact ⟨a, [], by simp, ha, hx, rfl⟩
  | _ :: xs, _, ⟨b, r, e, hs, hy, hl⟩ => ⟨b, r ++ a.toList, by rw [e, List.append_assoc], hs, hy, CmsL.snoc hx ha xs r hl⟩
theorem CmsL.len {w : World} {K : Nat → Prop} : ∀ (xs : List Cm) (cs : List Value), CmsL w K xs cs → cs.length = xs.length * 14
  | [], _, h => by obtain rfl := h; rfl
  | _ :: xs, _, ⟨a, r, e, hs, _, hl⟩ => by
    rw [e, List.length_append, Array.length_toList, hs, CmsL.len xs r hl, List.length_cons]
    omega
theorem CmsL.at_ {w : World} {K : Nat → Prop} : ∀ (xs : List Cm) (cs : List Value) (k : Nat) (x : Cm), CmsL w K xs cs → xs[k]? = some x → ∃ a : Array Value, a.size = 14 ∧ RdCm w K x (.agg a) ∧ ∀ j u, a[j]? = some u → cs[k * 14 + j]? = some u
  | [], _, k, x, _, hx => by simp at hx
  | y :: xs, _, 0, x, ⟨a, r, e, hs, hy, _⟩, hx => by
    simp only [List.getElem?_cons_zero, Option.some.injEq] at hx
    subst hx
    refine ⟨a, hs, hy, fun j u hu => ?_⟩
    have hj : j < a.toList.length := by rw [Array.length_toList]; exact (Array.getElem?_eq_some_iff.1 hu).1
    rw [e, List.getElem?_append_left (by omega), Nat.zero_mul, Nat.zero_add, Array.getElem?_toList]
    exact hu
  | _ :: xs, _, k + 1, x, ⟨a, r, e, hs, _, hl⟩, hx => by
    simp only [List.getElem?_cons_succ] at hx
    obtain ⟨b, hb, hxb, hc⟩ := CmsL.at_ xs r k x hl hx
    refine ⟨b, hb, hxb, fun j u hu => ?_⟩
    rw [e, show (k + 1) * 14 + j = a.toList.length + (k * 14 + j) by rw [Array.length_toList, hs]; omega, List.getElem?_append_right (by omega), Nat.add_sub_cancel_left]
    exact hc j u hu
/-- A slice of commands. -/
def RdCms (w : World) (K : Nat → Prop) (v : Value) (l : List Cm) : Prop := ∃ A c cs, v = .slice A l.length c ∧ l.length ≤ c ∧ Rk w K 14 A l.length cs ∧ CmsL w K l cs
theorem RdCms.nil (w : World) (K : Nat → Prop) : RdCms w K (.slice none 0 0) [] := ⟨none, 0, [], rfl, Nat.le_refl _, Rk.nil w K 14 none, rfl⟩
theorem RdCms.keep {w w' : World} {K : Nat → Prop} {v : Value} {l : List Cm} (h : RdCms w K v l) (hk : ∀ p : Addr, K p.block → w'.cell? p = w.cell? p) : RdCms w' K v l := by
  obtain ⟨A, c, cs, e, hc, hr, hl⟩ := h
  exact ⟨A, c, cs, e, hc, hr.keep hk, CmsL.keep hk _ _ hl⟩
theorem RdCms.mono {w : World} {K K' : Nat → Prop} {v : Value} {l : List Cm} (h : RdCms w K v l) (hk : ∀ b, K b → K' b) : RdCms w K' v l := by
  obtain ⟨A, c, cs, e, hc, hr, hl⟩ := h
  exact ⟨A, c, cs, e, hc, hr.mono hk, CmsL.mono hk _ _ hl⟩
/-- Commands that grow: a row of the call's own, what they lead to in other blocks. -/
structure CmsOwn (base g : Nat) (w : World) (v : Value) (l : List Cm) (cs : List Value) : Prop where
  row : w.ownsRow base 87 14 v l.length cs
  mem : CmsL w (fun b => base ≤ b ∧ b < w.heap.size ∧ b ≠ g ∧ v.ownBlock ≠ some b) l cs
theorem CmsOwn.nil (base g : Nat) (w : World) : CmsOwn base g w (.slice none 0 0) [] [] := ⟨⟨rfl, .inl ⟨rfl, rfl⟩⟩, rfl⟩
theorem ownsRow_x {w w' : World} {base e size n g : Nat} {v : Value} {xs : List Value} (h : w.ownsRow base e size v n xs) (hx : GrX w w' g) (hn : v.ownBlock ≠ some g) : w'.ownsRow base e size v n xs := by
  refine ⟨h.1, ?_⟩
  rcases h.2 with h0 | ⟨g', cap, cur, e1, e2, e3, e4⟩
  · exact .inl h0
  · refine .inr ⟨g', cap, cur, e1, e2, ?_, e4⟩
    have hlt : g' < w.heap.size := (Array.getElem?_eq_some_iff.1 e3).1
    rw [hx.block g' hlt (by intro e; apply hn; rw [e1]; exact e)]
    exact e3
theorem own_lt' {w : World} {base e size n : Nat} {v : Value} {xs : List Value} (h : w.ownsRow base e size v n xs) (k : Nat) (hk : v.ownBlock = some k) : base ≤ k ∧ k < w.heap.size := by
  rcases h.2 with ⟨rfl, _⟩ | ⟨g', cap, cur, rfl, e2, e3, _⟩
  · simp [Value.ownBlock] at hk
  · simp [Value.ownBlock] at hk
    subst hk
    exact ⟨e2, (Array.getElem?_eq_some_iff.1 e3).1⟩
theorem CmsOwn.x {base g : Nat} {w w' : World} {v : Value} {l : List Cm} {cs : List Value} (h : CmsOwn base g w v l cs) (hx : GrX w w' g) (hn : v.ownBlock ≠ some g) : CmsOwn base g w' v l cs :=
  ⟨ownsRow_x h.row hx hn, CmsL.mono (fun _ hb => ⟨hb.1, Nat.lt_of_lt_of_le hb.2.1 hx.size, hb.2.2⟩) _ _ (CmsL.keep (fun _ hp => World.cell?_of_block (hx.block _ hp.2.1 (by intro e; injection e with e; exact hp.2.2.1 e))) _ _ h.mem)⟩
theorem cmd_info : (Tryd.prog.info? 87).map (fun i => (i.zero, i.size, i.bytes)) = some (some (.agg #[.int .i64 0, .string ⟨#[]⟩, .string ⟨#[]⟩, .string ⟨#[]⟩, .string ⟨#[]⟩, .int .i64 0, .slice none 0 0, .int .u64 0, .int .u64 0, .int .i64 0, .string ⟨#[]⟩, .int .i64 0, .int .i64 0, .slice none 0 0]), 14, 184) := by kernel_rfl
theorem rdCm_one {w : World} {K : Nat → Prop} {x : Cm} {a : Array Value} (h : RdCm w K x (.agg a)) : ∀ u ∈ a.toList, u.oneCell' = true := by
  obtain ⟨vd, A, c, vs, op, nm, fr, to_, ks, e1, e2, h1, _⟩ := h
  injection e2 with e2
  obtain ⟨A2, c2, rfl, _⟩ := h1
  subst e2
  intro u hu
  simp only [List.mem_cons, List.not_mem_nil, or_false] at hu
  rcases hu with rfl | rfl | rfl | rfl | rfl | rfl | rfl | rfl | rfl | rfl | rfl | rfl | rfl | rfl <;> rfl
/-- A command is appended. -/
theorem wpList_appendC {ops : Array Oper} {rest : List Oper} {o : Oper} {a : Act} {Q : Exit → Act → World → Prop} (w : World) (hgd : o.guard = none) (s y : Operand)
    (ho : o.op = .call { callee := .builtin .append, args := #[s, y], argTypes := #[53, 53] }) (base g : Nat) (v : Value) (l : List Cm) (cs : List Value) (hs : a.eval s = v) (hown : CmsOwn base g w v l cs)
    (x : Cm) (ar : Array Value) (gb : Nat) (hx : a.eval y = .slice (some ⟨gb, 0, none⟩) 1 1) (hB : Blk w gb 87 ar) (har : ar.size = 14) (hr : RdCm w (fun b => base ≤ b ∧ b < w.heap.size ∧ b ≠ g ∧ v.ownBlock ≠ some b) x (.agg ar)) (hlen : l.length ≤ 1000) (hbase : base ≤ w.heap.size)
    (h : ∀ v' w', CmsOwn base g w' v' (l ++ [x]) (cs ++ ar.toList) → w.grownBy w' v.ownBlock → wpList Tryd.prog ops Q rest (a.put o.dst v') w') : wpList Tryd.prog ops Q (o :: rest) a w := by
  have hu := cmd_info
  cases hi : Tryd.prog.info? 87 with
  | none => rw [hi] at hu; cases hu
  | some i =>
    rw [hi] at hu
    simp only [Option.map_some, Option.some.injEq, Prod.mk.injEq] at hu
    obtain ⟨hz, hsz, hb⟩ := hu
    have hR : Reads w w.heap.size 14 (some ⟨gb, 0, none⟩) 1 ar.toList := by
      refine ⟨by simp [har], fun _ => ⟨_, rfl, hB.lt, fun j u hu => ?_⟩⟩
      have e : (⟨gb, 0, none⟩ : Addr).add j = ⟨gb, j, none⟩ := by
        unfold Addr.add
        split
        · rename_i h0; simp_all
        · simp
      rw [e, hB.cell j, ← Array.getElem?_toList, hu]
    refine wpList_append_any (P := Tryd.prog) w hgd s y 53 ho base 87 i _ 14 184 (by kernel_rfl) hi hz hsz hb rfl (by omega) v l.length cs hs hown.row w.heap.size _ 1 1 ar.toList hx hR (rdCm_one hr) (by unfold maxLen; omega) (by omega) hbase ?_
    intro v' w' hown' hg hat
    refine h v' w' ⟨by rw [List.length_append]; exact hown', ?_⟩ hg
    have hk : ∀ p : Addr, (base ≤ p.block ∧ p.block < w.heap.size ∧ p.block ≠ g ∧ v.ownBlock ≠ some p.block) → w'.cell? p = w.cell? p := fun p hp => World.cell?_of_block (hg.block p.block hp.2.1 (fun e => hp.2.2.2 e.symm))
    refine CmsL.mono ?_ _ _ (CmsL.keep hk _ _ (CmsL.snoc hr har l cs hown.mem))
    intro b hb
    refine ⟨hb.1, Nat.lt_of_lt_of_le hb.2.1 hg.size, hb.2.2.1, ?_⟩
    rcases hat with e | e
    · rw [e]; exact hb.2.2.2
    · rw [e]; intro e2; injection e2 with e2; omega
theorem CmsOwn.rd {base g : Nat} {w : World} {v : Value} {l : List Cm} {cs : List Value} (h : CmsOwn base g w v l cs) : RdCms w (fun b => base ≤ b ∧ b < w.heap.size) v l := by
  have hm := CmsL.mono (K' := fun b => base ≤ b ∧ b < w.heap.size) (fun _ hb => ⟨hb.1, hb.2.1⟩) _ _ h.mem
  rcases h.row.2 with ⟨rfl, h0⟩ | ⟨g', cap, cur, rfl, e2, e3, e4, e5⟩
  · have : l = [] := List.eq_nil_of_length_eq_zero h0
    subst this
    exact RdCms.nil w _
  · refine ⟨_, _, cs, rfl, e4, ?_, hm⟩
    have hr := Reads.of_own h.row
    refine ⟨hr.1, fun hn => ?_⟩
    obtain ⟨ad, ea, _, hc⟩ := hr.2 hn
    injection ea with ea
    subst ea
    exact ⟨_, rfl, ⟨e2, (Array.getElem?_eq_some_iff.1 e3).1⟩, hc⟩
end Go.Proofs.YteoidkjiigjlaaaDoor
