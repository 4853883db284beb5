/- Arguments that are conditions, or rules: what a datum that is read says of memory. -/
import Derived.Test.YtogpmihepfnoaaaGreatDoorRuP
import Derived.SizedLaws
import Derived.Deep.Slices
import Derived.ChangeSame
namespace Go.Proofs.YtogpmihepfnoaaaGreatDoor
open Go Go.RowKit Go.Deep Go.ChangeShapes

theorem kids_of {w : World} {K : Nat → Prop} {a : Addr} : ∀ (len s : Nat), (∀ i, s ≤ i → i < s + len → ∃ (e : Ex) (v0 v1 v2 v3 : Value), w.cell? (a.add (i * 4)) = some v0 ∧ w.cell? (a.add (i * 4 + 1)) = some v1 ∧ w.cell? (a.add (i * 4 + 2)) = some v2 ∧ w.cell? (a.add (i * 4 + 3)) = some v3 ∧ RdEx w K e (.agg #[v0, v1, v2, v3])) →
    ∃ (ks : List Ex) (vs : List Value), ks.length = len ∧ vs.length = len * 4 ∧ (∀ j u, vs[j]? = some u → w.cell? (a.add (s * 4 + j)) = some u) ∧ RdExL w K ks vs
  | 0, s, _ => ⟨[], [], rfl, rfl, fun j u h => by simp at h, by rw [RdExL]⟩
  | len + 1, s, h => by
    obtain ⟨e, v0, v1, v2, v3, h0, h1, h2, h3, he⟩ := h s (Nat.le_refl _) (by omega)
    obtain ⟨ks, vs, hk, hv, hc, hl⟩ := kids_of len (s + 1) (fun i h1 h2 => h i (by omega) (by omega))
    refine ⟨e :: ks, v0 :: v1 :: v2 :: v3 :: vs, by simp [hk], by simp [hv]; omega, fun j u hu => ?_, by rw [RdExL]; exact ⟨v0, v1, v2, v3, vs, rfl, he, hl⟩⟩
    match j, hu with
    | 0, hu => simp at hu; subst hu; exact h0
    | 1, hu => simp at hu; subst hu; exact h1
    | 2, hu => simp at hu; subst hu; exact h2
    | 3, hu => simp at hu; subst hu; exact h3
    | j + 4, hu =>
      simp at hu
      have := hc j u hu
      rwa [show (s + 1) * 4 + j = s * 4 + (j + 4) by omega] at this
theorem rules_of {w : World} {K : Nat → Prop} {a : Addr} : ∀ (len s : Nat), (∀ i, s ≤ i → i < s + len → ∃ (r : Ru) (v0 v1 v2 v3 : Value), w.cell? (a.add (i * 6)) = some (.string r.cls) ∧ w.cell? (a.add (i * 6 + 1)) = some v0 ∧ w.cell? (a.add (i * 6 + 2)) = some v1 ∧ w.cell? (a.add (i * 6 + 3)) = some v2 ∧ w.cell? (a.add (i * 6 + 4)) = some v3 ∧ w.cell? (a.add (i * 6 + 5)) = some (.int .i64 r.act) ∧ r.cls.size ≤ 140737488351232 ∧ RdEx w K r.wh (.agg #[v0, v1, v2, v3])) →
    ∃ (rs : List Ru) (vs : List Value), rs.length = len ∧ vs.length = len * 6 ∧ (∀ j u, vs[j]? = some u → w.cell? (a.add (s * 6 + j)) = some u) ∧ RdRuL w K rs vs
  | 0, s, _ => ⟨[], [], rfl, rfl, fun j u h => by simp at h, rfl⟩
  | len + 1, s, h => by
    obtain ⟨r, v0, v1, v2, v3, h0, h1, h2, h3, h4, h5, hs, he⟩ := h s (Nat.le_refl _) (by omega)
    obtain ⟨rs, vs, hk, hv, hc, hl⟩ := rules_of len (s + 1) (fun i h1 h2 => h i (by omega) (by omega))
    refine ⟨r :: rs, .string r.cls :: v0 :: v1 :: v2 :: v3 :: .int .i64 r.act :: vs, by simp [hk], by simp [hv]; omega, fun j u hu => ?_, ⟨v0, v1, v2, v3, vs, rfl, hs, he, hl⟩⟩
    match j, hu with
    | 0, hu => simp at hu; subst hu; exact h0
    | 1, hu => simp at hu; subst hu; exact h1
    | 2, hu => simp at hu; subst hu; exact h2
    | 3, hu => simp at hu; subst hu; exact h3
    | 4, hu => simp at hu; subst hu; exact h4
    | 5, hu => simp at hu; subst hu; exact h5
    | j + 6, hu =>
      simp at hu
      have := hc j u hu
      rwa [show (s + 1) * 6 + j = s * 6 + (j + 6) by omega] at this
theorem weights_all {H : Type} {P : Program} {e : TypeId} : ∀ {l : List (DataW H)} {j : Nat} {d : DataW H}, l[j]? = some d → ∀ n ∈ d.weights P e, n ∈ DataW.weightsAll P e l
  | [], j, d, h, n, hn => by simp at h
  | x :: r, 0, d, h, n, hn => by
    simp only [List.getElem?_cons_zero, Option.some.injEq] at h
    subst h
    simp only [DataW.weightsAll, List.mem_append]
    exact .inl hn
  | x :: r, j + 1, d, h, n, hn => by
    simp only [List.getElem?_cons_succ] at h
    simp only [DataW.weightsAll, List.mem_append]
    exact .inr (weights_all h n hn)
section
variable {H : Type} {enc : TypeId × Value → H} {w : World} {spare : Nat → Bool} {held : Bool}
theorem cellsE : Tryz.prog.cellsOf 45 = 4 := by kernel_rfl
theorem cellsR : Tryz.prog.cellsOf 47 = 6 := by kernel_rfl
theorem cellsI : Tryz.prog.cellsOf 3 = 1 := by kernel_rfl
theorem cellsSt : Tryz.prog.cellsOf 9 = 1 := by kernel_rfl
theorem cellsSl : Tryz.prog.cellsOf 43 = 1 := by kernel_rfl
set_option maxRecDepth 100000 in
theorem ex_of_trod : ∀ (F fuel : Nat) (cs : List Value) (x : DataW H × List MemPlace), fuel ≤ F → DataW.trod enc Tryz.prog w 0 spare held fuel 45 cs = some x → (∀ n ∈ x.1.weights Tryz.prog 45, n ≤ 140737488351232) →
    ∃ (e : Ex) (v0 v1 v2 v3 : Value), cs = [v0, v1, v2, v3] ∧ RdEx w (· < w.heap.size) e (.agg #[v0, v1, v2, v3])
  | 0, fuel, cs, x, hF, h, _ => by
    obtain ⟨xs, n, hn, _⟩ := DataW.trod_struct Tryz.underlying45 h
    omega
  | F + 1, fuel, cs, x, hF, h, hw => by
    have ih := ex_of_trod F
    obtain ⟨xs, n, hn, hx, hl, hlen, hf⟩ := DataW.trod_struct Tryz.underlying45 h
    rw [cellsE] at hl
    match cs, hl with
    | [c0, c1, c2, c3], _ =>
      match xs, hlen with
      | [y0, y1, y2, y3], _ =>
        have t0 : DataW.trod enc Tryz.prog w 0 spare held n 3 [c0] = some y0 := by have := hf 0 _ rfl; simpa [cellsI] using this
        have t1 : DataW.trod enc Tryz.prog w 0 spare held n 3 [c1] = some y1 := by have := hf 1 _ rfl; simpa [cellsI] using this
        have t2 : DataW.trod enc Tryz.prog w 0 spare held n 9 [c2] = some y2 := by have := hf 2 _ rfl; simpa [cellsSt] using this
        have t3 : DataW.trod enc Tryz.prog w 0 spare held n 43 [c3] = some y3 := by have := hf 3 _ rfl; simpa [cellsSl] using this
        obtain ⟨o, e0, _, _⟩ := DataW.trod_int Tryz.underlying3 t0
        obtain ⟨d, e1, _, _⟩ := DataW.trod_int Tryz.underlying3 t1
        obtain ⟨s, e2, hs2, _⟩ := DataW.trod_string Tryz.underlying9 t2
        simp only [List.cons.injEq, and_true] at e0 e1 e2
        subst e0 e1 e2
        subst hx
        have hwe : ∀ (j : Nat) (t : TypeId) (d : DataW H), [(3 : TypeId), 3, 9, 43][j]? = some t → [y0.1, y1.1, y2.1, y3.1][j]? = some d → ∀ n ∈ d.weights Tryz.prog t, n ≤ 140737488351232 := by
          intro j t d ht hd n hn
          refine hw n ?_
          simp only [DataW.weights, Tryz.underlying45]
          exact DataW.weights_mem_each ht hd n hn
        have hsz : s.size ≤ 140737488351232 := by
          have := hwe 2 _ _ rfl rfl s.data.toList.length (by rw [hs2]; simp [DataW.weights])
          simpa using this
        rcases DataW.trod_slice Tryz.underlying43 t3 with ⟨e3, _⟩ | ⟨a, len, cap, elems, rest, n', hn', e3, hy3, _, hlc, hcm, hel, hall, _, _⟩
        · simp only [List.cons.injEq, and_true] at e3
          subst e3
          refine ⟨.mk o d s [], _, _, _, _, rfl, ?_⟩
          rw [RdEx]
          exact ⟨none, 0, [], rfl, ⟨Nat.le_refl _, Nat.zero_le _, hsz⟩, Rk.nil _ _ _ _, by rw [RdExL]⟩
        · simp only [List.cons.injEq, and_true] at e3
          subst e3
          have hkid : ∀ i, 0 ≤ i → i < 0 + len → ∃ (e : Ex) (v0 v1 v2 v3 : Value), w.cell? (a.add (i * 4)) = some v0 ∧ w.cell? (a.add (i * 4 + 1)) = some v1 ∧ w.cell? (a.add (i * 4 + 2)) = some v2 ∧ w.cell? (a.add (i * 4 + 3)) = some v3 ∧ RdEx w (· < w.heap.size) e (.agg #[v0, v1, v2, v3]) := by
            intro i _ hi
            have hi : i < len := by omega
            have h1 := hall i hi
            rw [List.getElem?_eq_getElem (by omega : i < elems.length), Option.bind_eq_some_iff, cellsE] at h1
            obtain ⟨cs', hc', ht'⟩ := h1
            obtain ⟨_, hcl, hat⟩ := World.cells?_some hc'
            obtain ⟨e, v0, v1, v2, v3, rfl, hr⟩ := ih n' cs' _ (by omega) ht' (fun m hm => by
              refine hwe 3 _ _ rfl rfl m ?_
              rw [hy3]
              simp only [DataW.weights, Tryz.underlying43, List.mem_cons, List.mem_append]
              refine .inr (.inl (weights_all (j := i) ?_ m hm))
              rw [List.getElem?_map, List.getElem?_eq_getElem (by omega : i < elems.length)]
              rfl)
            refine ⟨e, v0, v1, v2, v3, ?_, ?_, ?_, ?_, hr⟩
            · have := hat 0 (by omega); simpa [Addr.add] using this
            · have := hat 1 (by omega); rw [add_of_add] at this; simpa using this
            · have := hat 2 (by omega); rw [add_of_add] at this; simpa using this
            · have := hat 3 (by omega); rw [add_of_add] at this; simpa using this
          obtain ⟨ks, vs, hkl, hvl, hcells, hL⟩ := kids_of len 0 hkid
          refine ⟨.mk o d s ks, _, _, _, _, rfl, ?_⟩
          rw [RdEx]
          subst hkl
          refine ⟨some a, cap, vs, rfl, ⟨hlc, hcm, hsz⟩, ⟨hvl, fun h0 => ⟨a, rfl, ?_, fun j u hu => ?_⟩⟩, hL⟩
          · obtain ⟨e, v0, v1, v2, v3, h0', _⟩ := hkid 0 (Nat.le_refl _) (by omega)
            have := block_lt_of_cell h0'
            rwa [block_of_add] at this
          · have := hcells j u hu
            rwa [Nat.zero_mul, Nat.zero_add] at this
set_option maxRecDepth 100000 in
theorem rus_of_trod {fuel : Nat} {v : Value} {x : DataW H × List MemPlace} (h : DataW.trod enc Tryz.prog w 0 spare held fuel 23 [v] = some x) (hw : ∀ n ∈ x.1.weights Tryz.prog 23, n ≤ 140737488351232) :
    ∃ rs : List Ru, RdRus w (· < w.heap.size) v rs := by
  rcases DataW.trod_slice Tryz.underlying23 h with ⟨e3, _⟩ | ⟨a, len, cap, elems, rest, n', hn', e3, hy3, _, hlc, hcm, hel, hall, _, _⟩
  · simp only [List.cons.injEq, and_true] at e3
    subst e3
    exact ⟨[], RdRus.nil _ _⟩
  · simp only [List.cons.injEq, and_true] at e3
    subst e3
    have hkid : ∀ i, 0 ≤ i → i < 0 + len → ∃ (r : Ru) (v0 v1 v2 v3 : Value), w.cell? (a.add (i * 6)) = some (.string r.cls) ∧ w.cell? (a.add (i * 6 + 1)) = some v0 ∧ w.cell? (a.add (i * 6 + 2)) = some v1 ∧ w.cell? (a.add (i * 6 + 3)) = some v2 ∧ w.cell? (a.add (i * 6 + 4)) = some v3 ∧ w.cell? (a.add (i * 6 + 5)) = some (.int .i64 r.act) ∧ r.cls.size ≤ 140737488351232 ∧ RdEx w (· < w.heap.size) r.wh (.agg #[v0, v1, v2, v3]) := by
      intro i _ hi
      have hi : i < len := by omega
      have h1 := hall i hi
      rw [List.getElem?_eq_getElem (by omega : i < elems.length), Option.bind_eq_some_iff, cellsR] at h1
      obtain ⟨cs', hc', ht'⟩ := h1
      obtain ⟨_, hcl, hat⟩ := World.cells?_some hc'
      have hwi : ∀ m ∈ (elems[i]'(by omega)).1.weights Tryz.prog 47, m ≤ 140737488351232 := fun m hm => by
        refine hw m ?_
        rw [hy3]
        simp only [DataW.weights, Tryz.underlying23, List.mem_cons, List.mem_append]
        refine .inr (.inl (weights_all (j := i) ?_ m hm))
        rw [List.getElem?_map, List.getElem?_eq_getElem (by omega : i < elems.length)]
        rfl
      generalize elems[i]'(by omega) = y at *
      obtain ⟨xs, n, hn, hx, hl, hlen, hf⟩ := DataW.trod_struct Tryz.underlying47 ht'
      match cs', hcl with
      | [c0, c1, c2, c3, c4, c5], _ =>
        match xs, hlen with
        | [y0, y1, y2], _ =>
          have t0 : DataW.trod enc Tryz.prog w 0 spare held n 9 [c0] = some y0 := by have := hf 0 _ rfl; simpa [cellsSt] using this
          have t1 : DataW.trod enc Tryz.prog w 0 spare held n 45 [c1, c2, c3, c4] = some y1 := by have := hf 1 _ rfl; simpa [cellsE] using this
          have t2 : DataW.trod enc Tryz.prog w 0 spare held n 3 [c5] = some y2 := by have := hf 2 _ rfl; simpa [cellsI] using this
          obtain ⟨s, e0, hs0, _⟩ := DataW.trod_string Tryz.underlying9 t0
          obtain ⟨ac, e2, _, _⟩ := DataW.trod_int Tryz.underlying3 t2
          simp only [List.cons.injEq, and_true] at e0 e2
          subst e0 e2
          subst hx
          have hwe : ∀ (j : Nat) (t : TypeId) (d : DataW H), [(9 : TypeId), 45, 3][j]? = some t → [y0.1, y1.1, y2.1][j]? = some d → ∀ n ∈ d.weights Tryz.prog t, n ≤ 140737488351232 := by
            intro j t d ht hd n hn
            refine hwi n ?_
            simp only [DataW.weights, Tryz.underlying47]
            exact DataW.weights_mem_each ht hd n hn
          have hsz : s.size ≤ 140737488351232 := by
            have := hwe 0 _ _ rfl rfl s.data.toList.length (by rw [hs0]; simp [DataW.weights])
            simpa using this
          obtain ⟨e, v0, v1, v2, v3, hcs, hr⟩ := ex_of_trod n n _ _ (Nat.le_refl _) t1 (hwe 1 _ _ rfl rfl)
          simp only [List.cons.injEq, and_true] at hcs
          obtain ⟨rfl, rfl, rfl, rfl⟩ := hcs
          refine ⟨⟨s, e, ac⟩, _, _, _, _, ?_, ?_, ?_, ?_, ?_, ?_, hsz, hr⟩
          · have := hat 0 (by omega); simpa [Addr.add] using this
          · have := hat 1 (by omega); rw [add_of_add] at this; simpa using this
          · have := hat 2 (by omega); rw [add_of_add] at this; simpa using this
          · have := hat 3 (by omega); rw [add_of_add] at this; simpa using this
          · have := hat 4 (by omega); rw [add_of_add] at this; simpa using this
          · have := hat 5 (by omega); rw [add_of_add] at this; simpa using this
    obtain ⟨rs, vs, hkl, hvl, hcells, hL⟩ := rules_of len 0 hkid
    subst hkl
    refine ⟨rs, some a, cap, vs, rfl, ⟨hlc, hcm⟩, ⟨hvl, fun h0 => ⟨a, rfl, ?_, fun j u hu => ?_⟩⟩, hL⟩
    · obtain ⟨r, v0, v1, v2, v3, h0', _⟩ := hkid 0 (Nat.le_refl _) (by omega)
      have := block_lt_of_cell h0'
      rwa [block_of_add] at this
    · have := hcells j u hu
      rwa [Nat.zero_mul, Nat.zero_add] at this
end
end Go.Proofs.YtogpmihepfnoaaaGreatDoor
