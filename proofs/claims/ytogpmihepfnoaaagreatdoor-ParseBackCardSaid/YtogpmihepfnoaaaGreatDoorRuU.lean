/- Conditions as texts: the reference's Expr, the program's written. -/
import Derived.Test.YtogpmihepfnoaaaGreatDoorRuT
namespace Go.Proofs.YtogpmihepfnoaaaGreatDoor
open Go Go.RowKit Go.Sort

theorem take_part {op : Int} {ks : List Ex} {k : Nat} {x : Ex} (h : ks[k]? = some x) : (partsL op ks).take (k + 1) = (partsL op ks).take k ++ [partL op x] := by
  have hp : (partsL op ks)[k]? = some (partL op x) := by rw [partsL_at op ks k x h]; rfl
  obtain ⟨hl, e⟩ := List.getElem?_eq_some_iff.1 hp
  rw [List.take_succ_eq_append_getElem hl, e]
theorem join_part {op : Int} {ks : List Ex} {k : Nat} {x : Ex} (h : ks[k]? = some x) (sep : List UInt8) : Lib.join ((partsL op ks).take (k + 1)) sep = if k = 0 then partL op x else Lib.join ((partsL op ks).take k) sep ++ (sep ++ partL op x) := by
  rw [take_part h]
  have hk : k < ks.length := (List.getElem?_eq_some_iff.1 h).1
  by_cases h0 : k = 0
  · subst h0
    rw [if_pos rfl, List.take_zero, List.nil_append, Lib.join_one]
  · rw [if_neg h0, join_snoc]
    intro e
    have := congrArg List.length e
    rw [List.length_take, partsL_len, List.length_nil] at this
    omega
theorem part_wrap {op : Int} {x : Ex} (h : wrapB op x = true) : partL op x = 40 :: (exprL x ++ [41]) := by unfold partL; rw [if_pos h]
theorem part_bare {op : Int} {x : Ex} (h : wrapB op x = false) : partL op x = exprL x := by unfold partL; rw [h, if_neg (by simp)]
theorem ba_wrap (l : List UInt8) : (⟨#[40]⟩ : ByteArray) ++ ba l ++ ⟨#[41]⟩ = ba (40 :: (l ++ [41])) := by
  show ba [40] ++ ba l ++ ba [41] = _
  rw [ba_app, ba_app]
  rfl
theorem parts_bound {op : Int} {ks : List Ex} {n d m : Nat} (h : mayXL ks n d = some m) (hn : n ≤ 1000) (k : Nat) : (Lib.join ((partsL op ks).take k) (sepL op)).length ≤ 60000 := by
  have h1 := partsL_sum op ks n d m h
  have h2 := join_take (sepL op) (partsL op ks) k
  have h3 : (partsL op ks).length * (sepL op).length ≤ (partsL op ks).length * 5 := Nat.mul_le_mul_left _ (sepL_len op)
  rw [partsL_len] at h2 h3
  omega
theorem ex_bound {x : Ex} {n d m : Nat} (h : mayX x n d = some m) (hn : n ≤ 1000) : (exprL x).length ≤ 60000 := by
  have := exprL_len x n d m h
  omega
theorem RdEx.four_ {w : World} {K : Nat → Prop} {op days : Int} {mile : ByteArray} {ks : List Ex} {v0 v1 v2 v3 : Value} (h : RdEx w K (.mk op days mile ks) (.agg #[v0, v1, v2, v3])) : ∃ (A : Option Addr) (c : Nat), v0 = .int .i64 op ∧ v1 = .int .i64 days ∧ v2 = .string mile ∧ v3 = .slice A ks.length c := by
  obtain ⟨A, c, vs, e, -⟩ := h.form
  injection e with e
  injection e with e
  simp only [List.cons.injEq, and_true] at e
  exact ⟨A, c, e⟩
theorem join_first {S X : ByteArray} {p : List UInt8} (hS : S = ba []) (hX : X = ba p) : S ++ X = ba p := by
  rw [hS, hX, ba_app, List.nil_append]
theorem join_next {S B X : ByteArray} {j sep p : List UInt8} (hS : S = ba j) (hB : B = ba sep) (hX : X = ba p) : S ++ B ++ X = ba (j ++ (sep ++ p)) := by
  rw [hS, hB, hX, ba_app, ba_app, List.append_assoc]
/-- A row of the call's own that holds these texts. -/
def OwnS (w : World) (base : Nat) (v : Value) (l : List ByteArray) : Prop := w.ownsRow base 9 1 v l.length (l.map Value.string)
theorem OwnS.nil (w : World) (base : Nat) : OwnS w base (.slice none 0 0) [] := ⟨rfl, .inl ⟨rfl, rfl⟩⟩
theorem OwnS.gr {w w' : World} {base : Nat} {v : Value} {l : List ByteArray} (h : OwnS w base v l) (hg : Gr w w') : OwnS w' base v l := ownsRow_gr h hg
theorem infoS : (Tryz.prog.info? 9).map (fun i => (i.zero, i.size, i.bytes)) = some (some (.string ⟨#[]⟩), 1, 16) := by kernel_rfl
theorem wpList_appendS {ops : Array Oper} {rest : List Oper} {o : Oper} {a : Act} {Q : Exit → Act → World → Prop} (w : World) (hgd : o.guard = none) (s y : Operand)
    (ho : o.op = .call { callee := .builtin .append, args := #[s, y], argTypes := #[93, 93] }) (base : Nat) (v : Value) (ts : List ByteArray) (hs : a.eval s = v) (hown : OwnS w base v ts)
    (t : ByteArray) (gb : Nat) (hx : a.eval y = .slice (some ⟨gb, 0, none⟩) 1 1) (hB : Blk w gb 9 #[.string t]) (hlen : ts.length ≤ 100000) (hbase : base ≤ w.heap.size)
    (h : ∀ v' w', OwnS w' base v' (ts ++ [t]) → Below base w w' → wpList Tryz.prog ops Q rest (a.put o.dst v') w') : wpList Tryz.prog ops Q (o :: rest) a w := by
  have hu := infoS
  cases hi : Tryz.prog.info? 9 with
  | none => rw [hi] at hu; cases hu
  | some i =>
    rw [hi] at hu
    simp only [Option.map_some, Option.some.injEq, Prod.mk.injEq] at hu
    obtain ⟨hz, hsz, hb⟩ := hu
    have hR : Reads w w.heap.size 1 (some ⟨gb, 0, none⟩) 1 [.string t] := by
      refine ⟨rfl, fun _ => ⟨_, rfl, hB.lt, fun j u hu => ?_⟩⟩
      have e : (⟨gb, 0, none⟩ : Addr).add j = ⟨gb, j, none⟩ := by
        unfold Addr.add
        split
        · rename_i h0; simp_all
        · simp
      rw [e, hB.cell j, ← Array.getElem?_toList]
      exact hu
    refine wpList_append_any (P := Tryz.prog) w hgd s y 93 ho base 9 i _ 1 16 (by kernel_rfl) hi hz hsz hb rfl (by omega) v ts.length _ hs hown w.heap.size _ 1 1 _ hx hR (fun u hu => by simp at hu; subst hu; rfl) (by unfold maxLen; omega) (by omega) hbase ?_
    intro v' w' hown' hg _
    refine h v' w' ?_ ?_
    · unfold OwnS
      rw [List.length_append, List.map_append]
      simpa using hown'
    · refine (Below.refl base w).grown hg hbase fun k hk => ?_
      rcases hown.2 with ⟨rfl, _⟩ | ⟨g, cap, cur, rfl, e2, _⟩
      · simp [Value.ownBlock] at hk
      · simp [Value.ownBlock] at hk
        omega
theorem OwnS.form {w : World} {base : Nat} {v : Value} {l : List ByteArray} (h : OwnS w base v l) (hn : 0 < l.length) : ∃ g cap, v = .slice (some ⟨g, 0, none⟩) l.length cap ∧ l.length ≤ cap ∧ g < w.heap.size ∧ ∀ (j : Nat) x, l[j]? = some x → w.cell? ⟨g, 0 + j, none⟩ = some (.string x) := by
  have h' := h
  rcases h.2 with ⟨rfl, h0⟩ | ⟨g, cap, cur, rfl, e2, e3, e4, e5⟩
  · omega
  · have hr := Reads.of_own h'
    obtain ⟨ad, ea, hlt, hc⟩ := hr.2 hn
    obtain rfl := Option.some.inj ea
    refine ⟨g, cap, rfl, e4, hlt, fun j x hx => ?_⟩
    have h1 := hc j (.string x) (by rw [List.getElem?_map, hx]; rfl)
    have e : (⟨g, 0, none⟩ : Addr).add j = ⟨g, 0 + j, none⟩ := by
      unfold Addr.add
      split
      · rename_i h0; simp_all
      · simp
    rwa [e] at h1

set_option maxRecDepth 100000 in
set_option maxHeartbeats 8000000 in
theorem rexpr_n : ∀ (N : Nat) (x : Ex) (v : Value) (w : World) (n d m : Nat), SizeOf.sizeOf x ≤ N → RdEx w (· < w.heap.size) x v → n ≤ 1000 → mayX x n d = some m →
    Calls Tryz.prog 19 #[v] w fun e w' => e = .returned (.string (ba (exprL x))) ∧ Gr w w'
  | 0, .mk op days mile ks, v, w, n, d, m, hN, _, _, _ => by
    have : 0 < SizeOf.sizeOf (Ex.mk op days mile ks) := by rw [Ex.mk.sizeOf_spec]; omega
    omega
  | N + 1, .mk op days mile ks, v, w, n, d, m, hN, hx, hn, hm => by
    have ih := rexpr_n N
    obtain ⟨A, c, vs, rfl, ⟨hc, hcm, hms⟩, hr, hl⟩ := hx.form
    clear hx
    unfold maxLen at hcm
    rcases mayX_kind hm with ⟨rfl, h0, h1, h2⟩ | ⟨ho, hk2, hmL⟩
    · rw [exprL_1]
      exact rexpr_1 days mile A ks.length c w h0 h1 h2
    · have hsz : ∀ (k : Nat) (x : Ex), ks[k]? = some x → SizeOf.sizeOf x ≤ N := by
        intro k x hx
        have h1 := List.sizeOf_lt_of_mem (List.mem_of_getElem? hx)
        have h2 : SizeOf.sizeOf (Ex.mk op days mile ks) = 1 + SizeOf.sizeOf op + SizeOf.sizeOf days + SizeOf.sizeOf mile + SizeOf.sizeOf ks := Ex.mk.sizeOf_spec op days mile ks
        omega
      have ho1 : op ≠ 1 := by omega
      rw [exprL_2 ho1]
      have hfull : Lib.join ((partsL op ks).take ks.length) (sepL op) = Lib.join (partsL op ks) (sepL op) := by
        rw [List.take_of_length_le (by rw [partsL_len]; exact Nat.le_refl _)]
      rw [← hfull]
      have hb := fun k => parts_bound (op := op) hmL (by omega) k
      have hj := fun k x (h : ks[k]? = some x) => join_part (op := op) h (sepL op)
      have hkid := fun k x (h : ks[k]? = some x) => mayXL_at ks _ _ _ k x hmL h
      have hn1 : n - 1 ≤ 1000 := by omega
      generalize hJ : (fun k => Lib.join ((partsL op ks).take k) (sepL op)) = J
      have hJ' : ∀ k, Lib.join ((partsL op ks).take k) (sepL op) = J k := fun k => by rw [← hJ]
      rw [hJ']
      have hb2 : ∀ k, (ba (J k)).size ≤ 60000 := fun k => by rw [← hJ', ba_size]; exact hb k
      have hj2 : ∀ k x, ks[k]? = some x → J (k + 1) = if k = 0 then partL op x else J k ++ (sepL op ++ partL op x) := fun k x h => by rw [← hJ', ← hJ']; exact hj k x h
      have hJ0 : J 0 = [] := by rw [← hJ']; rfl
      have HB := Lib.hid hb2
      have HJ := Lib.hid hj2
      have HJ0 := Lib.hid hJ0
      have HK := Lib.hid hkid
      clear hb hj hJ hJ' hb2 hj2 hJ0 hkid hm hfull hmL ho1
      rcases ho with rfl | rfl
      · go_enter Tryz.func19, Tryz.ntmps19
        go_wp2
        go_loopw [3, 4] (fun v3 v4 wr => ∃ k : Nat, v4 = .int .i64 (k : Int) ∧ v3 = .string (ba (J k)) ∧ k ≤ ks.length ∧ Gr w wr ∧ wr.cell? ⟨w.heap.size, 0, none⟩ = some (.int .i64 2) ∧ wr.cell? ⟨w.heap.size, 3, none⟩ = some (.slice A ks.length c)) (fun _ v4 _ => ks.length - (intOf v4).toNat)
        case atStart => exact ⟨0, rfl, by rw [HJ0.out]; rfl, Nat.zero_le _, Gr.alloc _ _, (Blk.new w 45 _).cell 0, (Blk.new w 45 _).cell 3⟩
        case round =>
          obtain ⟨k, rfl, rfl, hk, hgw, b0, b3⟩ := hrel
          have hblt := block_lt_of_cell b3
          by_cases hlt : k < ks.length
          · obtain ⟨x, hxk⟩ : ∃ x, ks[k]? = some x := ⟨_, List.getElem?_eq_getElem hlt⟩
            obtain ⟨ad, P, v0, v1, v2, v3, rfl, eP, hP, c0, c1, c2, c3, hsx⟩ := ex_cells (hr.gr hgw) (hl.gr hgw) rfl k x hxk
            obtain ⟨n', m', hn', hm'⟩ := HK.out k x hxk
            have cE := fun W hg => ih x _ W n' _ m' (hsz k x hxk) (hsx.gr hg) (by omega) hm'
            have hJk := Lib.hid (HJ.out k x hxk)
            have hxb := ex_bound hm' (by omega)
            have hSb := HB.out k
            obtain ⟨op', dy', ml', ks'⟩ := x
            obtain ⟨A', c', rfl, rfl, rfl, rfl⟩ := hsx.four_
            have hLL : (ba (exprL (.mk op' dy' ml' ks'))).size ≤ 60000 := by rw [ba_size]; exact hxb
            generalize hL : exprL (.mk op' dy' ml' ks') = L at *
            have HL := Lib.hid hL
            generalize hT : ba L = T at *
            generalize hS : ba (J k) = S at *
            have HT := Lib.hid hT
            have HS := Lib.hid hS
            clear hL hT hS hxk hm' hn' hxb hsx
            have z1 : ¬ 9223372036854775807 < 1 + T.size := by omega
            have z2 : ¬ 9223372036854775807 < 1 + T.size + 1 := by omega
            have z3 : ¬ 9223372036854775807 < S.size + T.size := by omega
            have z4 : ¬ 9223372036854775807 < S.size + (1 + T.size + 1) := by omega
            have z5 : ¬ 9223372036854775807 < S.size + 4 := by omega
            have z6 : ¬ 9223372036854775807 < S.size + 4 + T.size := by omega
            have z7 : ¬ 9223372036854775807 < S.size + 4 + (1 + T.size + 1) := by omega
            by_cases hk0 : k = 0
            · have g0 : decide (0 < k) = false := decide_eq_false (by omega)
              have g1 : decide ((0 : Int) < (k : Int)) = false := decide_eq_false (by omega)
              have HK0 := Lib.hid hk0
              rcases (by omega : op' = 2 ∨ op' = 3 ∨ (op' ≠ 2 ∧ op' ≠ 3)) with rfl | rfl | ⟨h2, h3⟩
              · have hp : partL 2 (.mk 2 dy' ml' ks') = 40 :: (L ++ [41]) := by rw [part_wrap (by unfold wrapB; first | rfl | simp), HL.out]
                have HP := Lib.hid hp
                clear hp
                clear hk0
                go_wp2_with (first
                | (go_at_call 19; (with_reducible refine (cE _ (Gr.alloc _ _)).mono ?_); rintro e w1 ⟨rfl, hb1⟩
                   have hG1 := Gr.trans (Gr.alloc wr (.cells #[.int .i64 2, .int .i64 dy', .string ml', .slice A' ks'.length c'] 45)) hb1
                   have r0 := (hG1.cell (p := ⟨w.heap.size, 0, none⟩) hblt).trans b0
                   have r3 := (hG1.cell (p := ⟨w.heap.size, 3, none⟩) hblt).trans b3
                   obtain ⟨q0, q1, q2, q3⟩ := four_ex ((Blk.new wr 45 #[.int .i64 2, .int .i64 dy', .string ml', .slice A' ks'.length c']).below hb1 (Blk.new wr _ _).lt)))
                all_goals (try (exfalso; omega))
                go_roundw
                case rel => exact ⟨k + 1, by go_num, congrArg Value.string (by rw [hJk.out, if_pos HK0.out, HP.out]; exact join_first (by rw [← HS.out, HK0.out, HJ0.out]) (by rw [← HT.out]; exact ba_wrap L)), by omega, Gr.trans hgw hG1, (hG1.cell (p := ⟨w.heap.size, 0, none⟩) hblt).trans b0, (hG1.cell (p := ⟨w.heap.size, 3, none⟩) hblt).trans b3⟩
                case measure => simp [intOf]; omega
              · have hp : partL 2 (.mk 3 dy' ml' ks') = L := by rw [part_bare (by unfold wrapB; first | rfl | simp), HL.out]
                have HP := Lib.hid hp
                clear hp
                clear hk0
                go_wp2_with (first
                | (go_at_call 19; (with_reducible refine (cE _ (Gr.alloc _ _)).mono ?_); rintro e w1 ⟨rfl, hb1⟩
                   have hG1 := Gr.trans (Gr.alloc wr (.cells #[.int .i64 3, .int .i64 dy', .string ml', .slice A' ks'.length c'] 45)) hb1
                   have r0 := (hG1.cell (p := ⟨w.heap.size, 0, none⟩) hblt).trans b0
                   have r3 := (hG1.cell (p := ⟨w.heap.size, 3, none⟩) hblt).trans b3
                   obtain ⟨q0, q1, q2, q3⟩ := four_ex ((Blk.new wr 45 #[.int .i64 3, .int .i64 dy', .string ml', .slice A' ks'.length c']).below hb1 (Blk.new wr _ _).lt)))
                all_goals (try (exfalso; omega))
                go_roundw
                case rel => exact ⟨k + 1, by go_num, congrArg Value.string (by rw [hJk.out, if_pos HK0.out, HP.out]; exact join_first (by rw [← HS.out, HK0.out, HJ0.out]) (by rw [← HT.out])), by omega, Gr.trans hgw hG1, (hG1.cell (p := ⟨w.heap.size, 0, none⟩) hblt).trans b0, (hG1.cell (p := ⟨w.heap.size, 3, none⟩) hblt).trans b3⟩
                case measure => simp [intOf]; omega
              · have y1 : (op' == 2) = false := by simp [h2]
                have y2 : (op' == 3) = false := by simp [h3]
                have hp : partL 2 (.mk op' dy' ml' ks') = L := by rw [part_bare (by unfold wrapB; first | rfl | simp [h2]), HL.out]
                have HP := Lib.hid hp
                clear hp
                clear h2 h3
                clear hk0
                go_wp2_with (first
                | (go_at_call 19; (with_reducible refine (cE _ (Gr.alloc _ _)).mono ?_); rintro e w1 ⟨rfl, hb1⟩
                   have hG1 := Gr.trans (Gr.alloc wr (.cells #[.int .i64 op', .int .i64 dy', .string ml', .slice A' ks'.length c'] 45)) hb1
                   have r0 := (hG1.cell (p := ⟨w.heap.size, 0, none⟩) hblt).trans b0
                   have r3 := (hG1.cell (p := ⟨w.heap.size, 3, none⟩) hblt).trans b3
                   obtain ⟨q0, q1, q2, q3⟩ := four_ex ((Blk.new wr 45 #[.int .i64 op', .int .i64 dy', .string ml', .slice A' ks'.length c']).below hb1 (Blk.new wr _ _).lt)))
                all_goals (try (exfalso; omega))
                go_roundw
                case rel => exact ⟨k + 1, by go_num, congrArg Value.string (by rw [hJk.out, if_pos HK0.out, HP.out]; exact join_first (by rw [← HS.out, HK0.out, HJ0.out]) (by rw [← HT.out])), by omega, Gr.trans hgw hG1, (hG1.cell (p := ⟨w.heap.size, 0, none⟩) hblt).trans b0, (hG1.cell (p := ⟨w.heap.size, 3, none⟩) hblt).trans b3⟩
                case measure => simp [intOf]; omega
            · have g0 : decide (0 < k) = true := decide_eq_true (by omega)
              have g1 : decide ((0 : Int) < (k : Int)) = true := decide_eq_true (by omega)
              have HK0 := Lib.hid hk0
              rcases (by omega : op' = 2 ∨ op' = 3 ∨ (op' ≠ 2 ∧ op' ≠ 3)) with rfl | rfl | ⟨h2, h3⟩
              · have hp : partL 2 (.mk 2 dy' ml' ks') = 40 :: (L ++ [41]) := by rw [part_wrap (by unfold wrapB; first | rfl | simp), HL.out]
                have HP := Lib.hid hp
                clear hp
                clear hk0
                go_wp2_with (first
                | (go_at_call 19; (with_reducible refine (cE _ (Gr.alloc _ _)).mono ?_); rintro e w1 ⟨rfl, hb1⟩
                   have hG1 := Gr.trans (Gr.alloc wr (.cells #[.int .i64 2, .int .i64 dy', .string ml', .slice A' ks'.length c'] 45)) hb1
                   have r0 := (hG1.cell (p := ⟨w.heap.size, 0, none⟩) hblt).trans b0
                   have r3 := (hG1.cell (p := ⟨w.heap.size, 3, none⟩) hblt).trans b3
                   obtain ⟨q0, q1, q2, q3⟩ := four_ex ((Blk.new wr 45 #[.int .i64 2, .int .i64 dy', .string ml', .slice A' ks'.length c']).below hb1 (Blk.new wr _ _).lt)))
                all_goals (try (exfalso; omega))
                go_roundw
                case rel => exact ⟨k + 1, by go_num, congrArg Value.string (by rw [hJk.out, if_neg HK0.out, HP.out]; exact join_next HS.out.symm rfl (by rw [← HT.out]; exact ba_wrap L)), by omega, Gr.trans hgw hG1, (hG1.cell (p := ⟨w.heap.size, 0, none⟩) hblt).trans b0, (hG1.cell (p := ⟨w.heap.size, 3, none⟩) hblt).trans b3⟩
                case measure => simp [intOf]; omega
              · have hp : partL 2 (.mk 3 dy' ml' ks') = L := by rw [part_bare (by unfold wrapB; first | rfl | simp), HL.out]
                have HP := Lib.hid hp
                clear hp
                clear hk0
                go_wp2_with (first
                | (go_at_call 19; (with_reducible refine (cE _ (Gr.alloc _ _)).mono ?_); rintro e w1 ⟨rfl, hb1⟩
                   have hG1 := Gr.trans (Gr.alloc wr (.cells #[.int .i64 3, .int .i64 dy', .string ml', .slice A' ks'.length c'] 45)) hb1
                   have r0 := (hG1.cell (p := ⟨w.heap.size, 0, none⟩) hblt).trans b0
                   have r3 := (hG1.cell (p := ⟨w.heap.size, 3, none⟩) hblt).trans b3
                   obtain ⟨q0, q1, q2, q3⟩ := four_ex ((Blk.new wr 45 #[.int .i64 3, .int .i64 dy', .string ml', .slice A' ks'.length c']).below hb1 (Blk.new wr _ _).lt)))
                all_goals (try (exfalso; omega))
                go_roundw
                case rel => exact ⟨k + 1, by go_num, congrArg Value.string (by rw [hJk.out, if_neg HK0.out, HP.out]; exact join_next HS.out.symm rfl (by rw [← HT.out])), by omega, Gr.trans hgw hG1, (hG1.cell (p := ⟨w.heap.size, 0, none⟩) hblt).trans b0, (hG1.cell (p := ⟨w.heap.size, 3, none⟩) hblt).trans b3⟩
                case measure => simp [intOf]; omega
              · have y1 : (op' == 2) = false := by simp [h2]
                have y2 : (op' == 3) = false := by simp [h3]
                have hp : partL 2 (.mk op' dy' ml' ks') = L := by rw [part_bare (by unfold wrapB; first | rfl | simp [h2]), HL.out]
                have HP := Lib.hid hp
                clear hp
                clear h2 h3
                clear hk0
                go_wp2_with (first
                | (go_at_call 19; (with_reducible refine (cE _ (Gr.alloc _ _)).mono ?_); rintro e w1 ⟨rfl, hb1⟩
                   have hG1 := Gr.trans (Gr.alloc wr (.cells #[.int .i64 op', .int .i64 dy', .string ml', .slice A' ks'.length c'] 45)) hb1
                   have r0 := (hG1.cell (p := ⟨w.heap.size, 0, none⟩) hblt).trans b0
                   have r3 := (hG1.cell (p := ⟨w.heap.size, 3, none⟩) hblt).trans b3
                   obtain ⟨q0, q1, q2, q3⟩ := four_ex ((Blk.new wr 45 #[.int .i64 op', .int .i64 dy', .string ml', .slice A' ks'.length c']).below hb1 (Blk.new wr _ _).lt)))
                all_goals (try (exfalso; omega))
                go_roundw
                case rel => exact ⟨k + 1, by go_num, congrArg Value.string (by rw [hJk.out, if_neg HK0.out, HP.out]; exact join_next HS.out.symm rfl (by rw [← HT.out])), by omega, Gr.trans hgw hG1, (hG1.cell (p := ⟨w.heap.size, 0, none⟩) hblt).trans b0, (hG1.cell (p := ⟨w.heap.size, 3, none⟩) hblt).trans b3⟩
                case measure => simp [intOf]; omega
          · obtain rfl : k = ks.length := by omega
            go_wp2
            go_ret
            exact ⟨rfl, hgw⟩
      · go_enter Tryz.func19, Tryz.ntmps19
        go_wp2
        go_loopw [3, 4] (fun v3 v4 wr => ∃ k : Nat, v4 = .int .i64 (k : Int) ∧ v3 = .string (ba (J k)) ∧ k ≤ ks.length ∧ Gr w wr ∧ wr.cell? ⟨w.heap.size, 0, none⟩ = some (.int .i64 3) ∧ wr.cell? ⟨w.heap.size, 3, none⟩ = some (.slice A ks.length c)) (fun _ v4 _ => ks.length - (intOf v4).toNat)
        case atStart => exact ⟨0, rfl, by rw [HJ0.out]; rfl, Nat.zero_le _, Gr.alloc _ _, (Blk.new w 45 _).cell 0, (Blk.new w 45 _).cell 3⟩
        case round =>
          obtain ⟨k, rfl, rfl, hk, hgw, b0, b3⟩ := hrel
          have hblt := block_lt_of_cell b3
          by_cases hlt : k < ks.length
          · obtain ⟨x, hxk⟩ : ∃ x, ks[k]? = some x := ⟨_, List.getElem?_eq_getElem hlt⟩
            obtain ⟨ad, P, v0, v1, v2, v3, rfl, eP, hP, c0, c1, c2, c3, hsx⟩ := ex_cells (hr.gr hgw) (hl.gr hgw) rfl k x hxk
            obtain ⟨n', m', hn', hm'⟩ := HK.out k x hxk
            have cE := fun W hg => ih x _ W n' _ m' (hsz k x hxk) (hsx.gr hg) (by omega) hm'
            have hJk := Lib.hid (HJ.out k x hxk)
            have hxb := ex_bound hm' (by omega)
            have hSb := HB.out k
            obtain ⟨op', dy', ml', ks'⟩ := x
            obtain ⟨A', c', rfl, rfl, rfl, rfl⟩ := hsx.four_
            have hLL : (ba (exprL (.mk op' dy' ml' ks'))).size ≤ 60000 := by rw [ba_size]; exact hxb
            generalize hL : exprL (.mk op' dy' ml' ks') = L at *
            have HL := Lib.hid hL
            generalize hT : ba L = T at *
            generalize hS : ba (J k) = S at *
            have HT := Lib.hid hT
            have HS := Lib.hid hS
            clear hL hT hS hxk hm' hn' hxb hsx
            have z1 : ¬ 9223372036854775807 < 1 + T.size := by omega
            have z2 : ¬ 9223372036854775807 < 1 + T.size + 1 := by omega
            have z3 : ¬ 9223372036854775807 < S.size + T.size := by omega
            have z4 : ¬ 9223372036854775807 < S.size + (1 + T.size + 1) := by omega
            have z5 : ¬ 9223372036854775807 < S.size + 5 := by omega
            have z6 : ¬ 9223372036854775807 < S.size + 5 + T.size := by omega
            have z7 : ¬ 9223372036854775807 < S.size + 5 + (1 + T.size + 1) := by omega
            by_cases hk0 : k = 0
            · have g0 : decide (0 < k) = false := decide_eq_false (by omega)
              have g1 : decide ((0 : Int) < (k : Int)) = false := decide_eq_false (by omega)
              have HK0 := Lib.hid hk0
              rcases (by omega : op' = 2 ∨ op' = 3 ∨ (op' ≠ 2 ∧ op' ≠ 3)) with rfl | rfl | ⟨h2, h3⟩
              · have hp : partL 3 (.mk 2 dy' ml' ks') = 40 :: (L ++ [41]) := by rw [part_wrap (by unfold wrapB; first | rfl | simp), HL.out]
                have HP := Lib.hid hp
                clear hp
                clear hk0
                go_wp2_with (first
                | (go_at_call 19; (with_reducible refine (cE _ (Gr.alloc _ _)).mono ?_); rintro e w1 ⟨rfl, hb1⟩
                   have hG1 := Gr.trans (Gr.alloc wr (.cells #[.int .i64 2, .int .i64 dy', .string ml', .slice A' ks'.length c'] 45)) hb1
                   have r0 := (hG1.cell (p := ⟨w.heap.size, 0, none⟩) hblt).trans b0
                   have r3 := (hG1.cell (p := ⟨w.heap.size, 3, none⟩) hblt).trans b3
                   obtain ⟨q0, q1, q2, q3⟩ := four_ex ((Blk.new wr 45 #[.int .i64 2, .int .i64 dy', .string ml', .slice A' ks'.length c']).below hb1 (Blk.new wr _ _).lt)))
                all_goals (try (exfalso; omega))
                go_roundw
                case rel => exact ⟨k + 1, by go_num, congrArg Value.string (by rw [hJk.out, if_pos HK0.out, HP.out]; exact join_first (by rw [← HS.out, HK0.out, HJ0.out]) (by rw [← HT.out]; exact ba_wrap L)), by omega, Gr.trans hgw hG1, (hG1.cell (p := ⟨w.heap.size, 0, none⟩) hblt).trans b0, (hG1.cell (p := ⟨w.heap.size, 3, none⟩) hblt).trans b3⟩
                case measure => simp [intOf]; omega
              · have hp : partL 3 (.mk 3 dy' ml' ks') = 40 :: (L ++ [41]) := by rw [part_wrap (by unfold wrapB; first | rfl | simp), HL.out]
                have HP := Lib.hid hp
                clear hp
                clear hk0
                go_wp2_with (first
                | (go_at_call 19; (with_reducible refine (cE _ (Gr.alloc _ _)).mono ?_); rintro e w1 ⟨rfl, hb1⟩
                   have hG1 := Gr.trans (Gr.alloc wr (.cells #[.int .i64 3, .int .i64 dy', .string ml', .slice A' ks'.length c'] 45)) hb1
                   have r0 := (hG1.cell (p := ⟨w.heap.size, 0, none⟩) hblt).trans b0
                   have r3 := (hG1.cell (p := ⟨w.heap.size, 3, none⟩) hblt).trans b3
                   obtain ⟨q0, q1, q2, q3⟩ := four_ex ((Blk.new wr 45 #[.int .i64 3, .int .i64 dy', .string ml', .slice A' ks'.length c']).below hb1 (Blk.new wr _ _).lt)))
                all_goals (try (exfalso; omega))
                go_roundw
                case rel => exact ⟨k + 1, by go_num, congrArg Value.string (by rw [hJk.out, if_pos HK0.out, HP.out]; exact join_first (by rw [← HS.out, HK0.out, HJ0.out]) (by rw [← HT.out]; exact ba_wrap L)), by omega, Gr.trans hgw hG1, (hG1.cell (p := ⟨w.heap.size, 0, none⟩) hblt).trans b0, (hG1.cell (p := ⟨w.heap.size, 3, none⟩) hblt).trans b3⟩
                case measure => simp [intOf]; omega
              · have y1 : (op' == 2) = false := by simp [h2]
                have y2 : (op' == 3) = false := by simp [h3]
                have hp : partL 3 (.mk op' dy' ml' ks') = L := by rw [part_bare (by unfold wrapB; first | rfl | simp [h2, h3]), HL.out]
                have HP := Lib.hid hp
                clear hp
                clear h2 h3
                clear hk0
                go_wp2_with (first
                | (go_at_call 19; (with_reducible refine (cE _ (Gr.alloc _ _)).mono ?_); rintro e w1 ⟨rfl, hb1⟩
                   have hG1 := Gr.trans (Gr.alloc wr (.cells #[.int .i64 op', .int .i64 dy', .string ml', .slice A' ks'.length c'] 45)) hb1
                   have r0 := (hG1.cell (p := ⟨w.heap.size, 0, none⟩) hblt).trans b0
                   have r3 := (hG1.cell (p := ⟨w.heap.size, 3, none⟩) hblt).trans b3
                   obtain ⟨q0, q1, q2, q3⟩ := four_ex ((Blk.new wr 45 #[.int .i64 op', .int .i64 dy', .string ml', .slice A' ks'.length c']).below hb1 (Blk.new wr _ _).lt)))
                all_goals (try (exfalso; omega))
                go_roundw
                case rel => exact ⟨k + 1, by go_num, congrArg Value.string (by rw [hJk.out, if_pos HK0.out, HP.out]; exact join_first (by rw [← HS.out, HK0.out, HJ0.out]) (by rw [← HT.out])), by omega, Gr.trans hgw hG1, (hG1.cell (p := ⟨w.heap.size, 0, none⟩) hblt).trans b0, (hG1.cell (p := ⟨w.heap.size, 3, none⟩) hblt).trans b3⟩
                case measure => simp [intOf]; omega
            · have g0 : decide (0 < k) = true := decide_eq_true (by omega)
              have g1 : decide ((0 : Int) < (k : Int)) = true := decide_eq_true (by omega)
              have HK0 := Lib.hid hk0
              rcases (by omega : op' = 2 ∨ op' = 3 ∨ (op' ≠ 2 ∧ op' ≠ 3)) with rfl | rfl | ⟨h2, h3⟩
              · have hp : partL 3 (.mk 2 dy' ml' ks') = 40 :: (L ++ [41]) := by rw [part_wrap (by unfold wrapB; first | rfl | simp), HL.out]
                have HP := Lib.hid hp
                clear hp
                clear hk0
                go_wp2_with (first
                | (go_at_call 19; (with_reducible refine (cE _ (Gr.alloc _ _)).mono ?_); rintro e w1 ⟨rfl, hb1⟩
                   have hG1 := Gr.trans (Gr.alloc wr (.cells #[.int .i64 2, .int .i64 dy', .string ml', .slice A' ks'.length c'] 45)) hb1
                   have r0 := (hG1.cell (p := ⟨w.heap.size, 0, none⟩) hblt).trans b0
                   have r3 := (hG1.cell (p := ⟨w.heap.size, 3, none⟩) hblt).trans b3
                   obtain ⟨q0, q1, q2, q3⟩ := four_ex ((Blk.new wr 45 #[.int .i64 2, .int .i64 dy', .string ml', .slice A' ks'.length c']).below hb1 (Blk.new wr _ _).lt)))
                all_goals (try (exfalso; omega))
                go_roundw
                case rel => exact ⟨k + 1, by go_num, congrArg Value.string (by rw [hJk.out, if_neg HK0.out, HP.out]; exact join_next HS.out.symm rfl (by rw [← HT.out]; exact ba_wrap L)), by omega, Gr.trans hgw hG1, (hG1.cell (p := ⟨w.heap.size, 0, none⟩) hblt).trans b0, (hG1.cell (p := ⟨w.heap.size, 3, none⟩) hblt).trans b3⟩
                case measure => simp [intOf]; omega
              · have hp : partL 3 (.mk 3 dy' ml' ks') = 40 :: (L ++ [41]) := by rw [part_wrap (by unfold wrapB; first | rfl | simp), HL.out]
                have HP := Lib.hid hp
                clear hp
                clear hk0
                go_wp2_with (first
                | (go_at_call 19; (with_reducible refine (cE _ (Gr.alloc _ _)).mono ?_); rintro e w1 ⟨rfl, hb1⟩
                   have hG1 := Gr.trans (Gr.alloc wr (.cells #[.int .i64 3, .int .i64 dy', .string ml', .slice A' ks'.length c'] 45)) hb1
                   have r0 := (hG1.cell (p := ⟨w.heap.size, 0, none⟩) hblt).trans b0
                   have r3 := (hG1.cell (p := ⟨w.heap.size, 3, none⟩) hblt).trans b3
                   obtain ⟨q0, q1, q2, q3⟩ := four_ex ((Blk.new wr 45 #[.int .i64 3, .int .i64 dy', .string ml', .slice A' ks'.length c']).below hb1 (Blk.new wr _ _).lt)))
                all_goals (try (exfalso; omega))
                go_roundw
                case rel => exact ⟨k + 1, by go_num, congrArg Value.string (by rw [hJk.out, if_neg HK0.out, HP.out]; exact join_next HS.out.symm rfl (by rw [← HT.out]; exact ba_wrap L)), by omega, Gr.trans hgw hG1, (hG1.cell (p := ⟨w.heap.size, 0, none⟩) hblt).trans b0, (hG1.cell (p := ⟨w.heap.size, 3, none⟩) hblt).trans b3⟩
                case measure => simp [intOf]; omega
              · have y1 : (op' == 2) = false := by simp [h2]
                have y2 : (op' == 3) = false := by simp [h3]
                have hp : partL 3 (.mk op' dy' ml' ks') = L := by rw [part_bare (by unfold wrapB; first | rfl | simp [h2, h3]), HL.out]
                have HP := Lib.hid hp
                clear hp
                clear h2 h3
                clear hk0
                go_wp2_with (first
                | (go_at_call 19; (with_reducible refine (cE _ (Gr.alloc _ _)).mono ?_); rintro e w1 ⟨rfl, hb1⟩
                   have hG1 := Gr.trans (Gr.alloc wr (.cells #[.int .i64 op', .int .i64 dy', .string ml', .slice A' ks'.length c'] 45)) hb1
                   have r0 := (hG1.cell (p := ⟨w.heap.size, 0, none⟩) hblt).trans b0
                   have r3 := (hG1.cell (p := ⟨w.heap.size, 3, none⟩) hblt).trans b3
                   obtain ⟨q0, q1, q2, q3⟩ := four_ex ((Blk.new wr 45 #[.int .i64 op', .int .i64 dy', .string ml', .slice A' ks'.length c']).below hb1 (Blk.new wr _ _).lt)))
                all_goals (try (exfalso; omega))
                go_roundw
                case rel => exact ⟨k + 1, by go_num, congrArg Value.string (by rw [hJk.out, if_neg HK0.out, HP.out]; exact join_next HS.out.symm rfl (by rw [← HT.out])), by omega, Gr.trans hgw hG1, (hG1.cell (p := ⟨w.heap.size, 0, none⟩) hblt).trans b0, (hG1.cell (p := ⟨w.heap.size, 3, none⟩) hblt).trans b3⟩
                case measure => simp [intOf]; omega
          · obtain rfl : k = ks.length := by omega
            go_wp2
            go_ret
            exact ⟨rfl, hgw⟩
end Go.Proofs.YtogpmihepfnoaaaGreatDoor
