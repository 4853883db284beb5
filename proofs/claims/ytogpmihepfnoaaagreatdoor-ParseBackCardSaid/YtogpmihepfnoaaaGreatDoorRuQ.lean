/- The law RuleChecks: its walk. -/
import Derived.Test.YtogpmihepfnoaaaGreatDoorRuH
import Derived.Test.YtogpmihepfnoaaaGreatDoorRuK
namespace Go.Proofs.YtogpmihepfnoaaaGreatDoor
open Go Go.RowKit Go.Sort

theorem rk_blk {w : World} {K : Nat → Prop} {b size n : Nat} {T : TypeId} {cs : Array Value} {vs : List Value} (h : Blk w b T cs) (hK : K b) (hc : cs.toList = vs) (hn : vs.length = n * size) : Rk w K size (some ⟨b, 0, none⟩) n vs := by
  refine ⟨hn, fun _ => ⟨_, rfl, hK, fun j u hu => ?_⟩⟩
  have e : (⟨b, 0, none⟩ : Addr).add j = ⟨b, j, none⟩ := by
    unfold Addr.add
    split
    · rename_i h0; simp_all
    · simp
  rw [e, h.cell j, ← Array.getElem?_toList, hc, hu]
theorem rd_leaf (w : World) (K : Nat → Prop) (op d : Int) (m : ByteArray) (h : m.size ≤ 140737488351232) : RdEx w K (.mk op d m []) (.agg #[.int .i64 op, .int .i64 d, .string m, .slice none 0 0]) := by
  rw [RdEx]
  exact ⟨none, 0, [], rfl, ⟨Nat.le_refl _, Nat.zero_le _, h⟩, Rk.nil _ _ _ _, by rw [RdExL]⟩
theorem rd_node2 {w : World} {K : Nat → Prop} {b : Nat} {T : TypeId} {op d : Int} {m : ByteArray} {x y : Ex} {v0 v1 v2 v3 u0 u1 u2 u3 : Value} (hm : m.size ≤ 140737488351232) (h : Blk w b T #[v0, v1, v2, v3, u0, u1, u2, u3]) (hK : K b) (hx : RdEx w K x (.agg #[v0, v1, v2, v3])) (hy : RdEx w K y (.agg #[u0, u1, u2, u3])) :
    RdEx w K (.mk op d m [x, y]) (.agg #[.int .i64 op, .int .i64 d, .string m, .slice (some ⟨b, 0, none⟩) 2 2]) := by
  rw [RdEx]
  refine ⟨_, 2, [v0, v1, v2, v3, u0, u1, u2, u3], rfl, ⟨Nat.le_refl _, by unfold maxLen; decide, hm⟩, rk_blk h hK rfl rfl, ?_⟩
  rw [RdExL]
  refine ⟨v0, v1, v2, v3, _, rfl, hx, ?_⟩
  rw [RdExL]
  refine ⟨u0, u1, u2, u3, _, rfl, hy, ?_⟩
  rw [RdExL]
theorem rd_rule1 {w : World} {K : Nat → Prop} {b : Nat} {T : TypeId} {c : ByteArray} {ac : Int} {x : Ex} {v0 v1 v2 v3 : Value} (hm : c.size ≤ 140737488351232) (h : Blk w b T #[.string c, v0, v1, v2, v3, .int .i64 ac]) (hK : K b) (hx : RdEx w K x (.agg #[v0, v1, v2, v3])) :
    RdRus w K (.slice (some ⟨b, 0, none⟩) 1 1) [⟨c, x, ac⟩] :=
  ⟨_, 1, [.string c, v0, v1, v2, v3, .int .i64 ac], rfl, ⟨Nat.le_refl _, by unfold maxLen; decide⟩, rk_blk h hK rfl rfl, v0, v1, v2, v3, [], rfl, hm, hx, rfl⟩
/-- The page's example. -/
def liveE : Ex := .mk 2 0 ⟨#[]⟩ [.mk 1 730 ⟨#[99, 108, 111, 115, 101, 100]⟩ [], .mk 3 0 ⟨#[]⟩ [.mk 1 30 ⟨#[108, 101, 102, 116]⟩ [], .mk 1 1 ⟨#[105, 110, 103, 101, 115, 116]⟩ []]]
theorem tx_730 : textD 730 = [50, 121] := by
  rw [textD, if_neg (by omega), if_neg (by omega), if_pos (by omega), show (730 : Int) / 365 = ((2 : Nat) : Int) by omega, one_itoa 2 (by omega)]; rfl
theorem tx_30 : textD 30 = [49, 109] := by
  rw [textD, if_neg (by omega), if_neg (by omega), if_neg (by omega), if_pos (by omega), show (30 : Int) / 30 = ((1 : Nat) : Int) by omega, one_itoa 1 (by omega)]; rfl
theorem tx_1 : textD 1 = [49, 100] := by
  rw [textD, if_neg (by omega), if_neg (by omega), if_neg (by omega), if_neg (by omega), if_neg (by omega), show (1 : Int) = ((1 : Nat) : Int) by omega, one_itoa 1 (by omega)]; rfl
theorem emp0 : ((⟨#[]⟩ : ByteArray) = ByteArray.empty) = True := eq_true rfl
theorem live_may : mayX liveE 24 8 = some 19 := by
  have m1 : mileD ⟨#[99, 108, 111, 115, 101, 100]⟩ = true := by decide
  have m2 : mileD ⟨#[108, 101, 102, 116]⟩ = true := by decide
  have m3 : mileD ⟨#[105, 110, 103, 101, 115, 116]⟩ = true := by decide
  unfold liveE
  simp [mayX, mayXL, m1, m2, m3, emp0]
theorem live_check : checkD [⟨⟨#[]⟩, liveE, 1⟩] = 0 := by
  refine checkD_0 (by simp) ?_ (by simp)
  simp [okR, live_may, emp0]
theorem live_text : printL [⟨⟨#[]⟩, liveE, 1⟩] = [100, 101, 102, 97, 117, 108, 116, 32, 107, 101, 101, 112, 32, 50, 121, 32, 97, 102, 116, 101, 114, 32, 99, 108, 111, 115, 101, 100, 32, 111, 114, 32, 49, 109, 32, 97, 102, 116, 101, 114, 32, 108, 101, 102, 116, 32, 97, 110, 100, 32, 49, 100, 32, 97, 102, 116, 101, 114, 32, 105, 110, 103, 101, 115, 116, 32, 116, 104, 101, 110, 32, 100, 101, 115, 116, 114, 111, 121, 59, 10] := by
  unfold liveE
  simp [printL, ruleL, clsL, actL, exprL, partsL, wrapB, sepL, Lib.join, List.intercalate, tx_730, tx_30, tx_1, emp0, Ex.op]
theorem live_print : printD [⟨⟨#[]⟩, liveE, 1⟩] = ([100, 101, 102, 97, 117, 108, 116, 32, 107, 101, 101, 112, 32, 50, 121, 32, 97, 102, 116, 101, 114, 32, 99, 108, 111, 115, 101, 100, 32, 111, 114, 32, 49, 109, 32, 97, 102, 116, 101, 114, 32, 108, 101, 102, 116, 32, 97, 110, 100, 32, 49, 100, 32, 97, 102, 116, 101, 114, 32, 105, 110, 103, 101, 115, 116, 32, 116, 104, 101, 110, 32, 100, 101, 115, 116, 114, 111, 121, 59, 10], 0) := by
  rw [printD, live_check, if_neg (by decide), live_text, if_neg (by decide)]
abbrev liveC1 : Array Value := #[.int .i64 1, .int .i64 30, .string ⟨#[108, 101, 102, 116]⟩, .slice none 0 0, .int .i64 1, .int .i64 1, .string ⟨#[105, 110, 103, 101, 115, 116]⟩, .slice none 0 0]
abbrev liveC2 (b : Nat) : Array Value := #[.int .i64 1, .int .i64 730, .string ⟨#[99, 108, 111, 115, 101, 100]⟩, .slice none 0 0, .int .i64 3, .int .i64 0, .string ⟨#[]⟩, .slice (some ⟨b, 0, none⟩) 2 2]
abbrev liveC3 (b : Nat) : Array Value := #[.int .i64 2, .int .i64 0, .string ⟨#[]⟩, .slice (some ⟨b, 0, none⟩) 2 2]
abbrev liveC4 (b : Nat) : Array Value := #[.string ⟨#[]⟩, .int .i64 2, .int .i64 0, .string ⟨#[]⟩, .slice (some ⟨b, 0, none⟩) 2 2, .int .i64 1]
abbrev liveW (w : World) : World := (((w.alloc (.cells liveC1 45)).alloc (.cells (liveC2 w.heap.size) 45)).alloc (.cells (liveC3 (w.heap.size + 1)) 45)).alloc (.cells (liveC4 (w.heap.size + 1)) 47)
theorem liveW_gr (w : World) : Gr w (liveW w) := Gr.trans (Gr.trans (Gr.trans (Gr.alloc _ _) (Gr.alloc _ _)) (Gr.alloc _ _)) (Gr.alloc _ _)
theorem liveW_rd (w : World) : RdRus (liveW w) (· < (liveW w).heap.size) (.slice (some ⟨w.heap.size + 1 + 1 + 1, 0, none⟩) 1 1) [⟨⟨#[]⟩, liveE, 1⟩] := by
  have b1 : Blk (liveW w) w.heap.size 45 liveC1 := ((((Blk.new w _ _).alloc _).alloc _).alloc _)
  have b2 : Blk (liveW w) (w.heap.size + 1) 45 (liveC2 w.heap.size) := by
    have h := ((Blk.new (w.alloc (.cells liveC1 45)) 45 (liveC2 w.heap.size)).alloc (.cells (liveC3 (w.heap.size + 1)) 45)).alloc (.cells (liveC4 (w.heap.size + 1)) 47)
    rwa [show (w.alloc (.cells liveC1 45)).heap.size = w.heap.size + 1 by simp] at h
  have b4 : Blk (liveW w) (w.heap.size + 1 + 1 + 1) 47 (liveC4 (w.heap.size + 1)) := by
    have h := Blk.new (((w.alloc (.cells liveC1 45)).alloc (.cells (liveC2 w.heap.size) 45)).alloc (.cells (liveC3 (w.heap.size + 1)) 45)) 47 (liveC4 (w.heap.size + 1))
    rwa [show (((w.alloc (.cells liveC1 45)).alloc (.cells (liveC2 w.heap.size) 45)).alloc (.cells (liveC3 (w.heap.size + 1)) 45)).heap.size = w.heap.size + 1 + 1 + 1 by simp] at h
  exact rd_rule1 (by decide) b4 b4.lt (rd_node2 (by decide) b2 b2.lt (rd_leaf _ _ _ _ _ (by decide)) (rd_node2 (by decide) b1 b1.lt (rd_leaf _ _ _ _ _ (by decide)) (rd_leaf _ _ _ _ _ (by decide))))
end Go.Proofs.YtogpmihepfnoaaaGreatDoor
