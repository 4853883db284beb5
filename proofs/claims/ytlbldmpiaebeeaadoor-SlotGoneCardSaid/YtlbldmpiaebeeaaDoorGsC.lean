/- Marks: what the program's package mark gives of bytes: Of, Put, Check; bytes.Equal. -/
import Derived.Test.YtlbldmpiaebeeaaDoorSeA
import Derived.Test.YtlbldmpiaebeeaaDoorDkG
import Derived.RegionTactic
namespace Go.Proofs.YtlbldmpiaebeeaaDoor
open Go Go.RowKit

theorem markZ_next {z : Int × Int} {l : List UInt8} {k : Nat} {c : UInt8} (h : l[k]? = some c) : markZ z (l.take (k + 1)) = mkStep (markZ z (l.take k)) c := by
  unfold markZ
  rw [take_next h, List.foldl_append]
  rfl
theorem red_small {z : Int × Int} (h : redZ z) : smI z.1 ∧ smI z.2 := ⟨⟨h.1.1, by have := h.1.2; omega⟩, h.2.1, by have := h.2.2; omega⟩
set_option maxRecDepth 100000 in
set_option maxHeartbeats 2000000 in
theorem of_m (w : World) (B : Nat) (l : List UInt8) (ad : Addr) (v : Value) (hc : w.cell? ad = some v) (hr : RdB w B v l) (hl : l.length ≤ 1073741824) : Calls Tryd.prog 48 #[.slice (some ad) 1 1] w fun e w' => e = .returned (cx (markZ (0, 0) l).1 (markZ (0, 0) l).2) ∧ w = w' := by
  have cO : ∀ W, Calls Tryd.prog 56 #[.int .i64 0, .int .i64 0] W fun e w' => e = .returned (cx 0 0) ∧ W = w' := fun W => of_g W 0 0 (by constructor <;> omega) (by constructor <;> omega)
  have cB := base_m
  obtain ⟨A, c, rfl, hcc, hA⟩ := hr
  go_enter Tryd.func48, Tryd.ntmps48
  go_wp2_with (first
    | (go_at_call 56; (with_reducible refine (cO _).mono ?_); rintro e w1 ⟨rfl, rfl⟩)
    | (go_at_call 57; (with_reducible refine (cB _).mono ?_); rintro e w1 ⟨rfl, rfl⟩))
  go_loopw [3, 13] (fun v3 v13 wr => ((v13 = .int .i64 0 ∧ v3 = cx 0 0) ∨ (v13 = .int .i64 1 ∧ v3 = cx (markZ (0, 0) l).1 (markZ (0, 0) l).2)) ∧ w = wr) (fun _ v13 _ => 1 - (intOf v13).toNat)
  case atStart => exact ⟨.inl ⟨rfl, rfl⟩, rfl⟩
  case round =>
    obtain ⟨⟨rfl, rfl⟩ | ⟨rfl, rfl⟩, rfl⟩ := hrel
    · have hc0 : w.cell? (ad.add 0) = some (.slice A l.length c) := by rw [show ad.add 0 = ad from rfl]; exact hc
      go_wp2
      go_loopw [3, 19] (fun v3 v19 wr => (∃ k : Nat, v19 = .int .i64 k ∧ k ≤ l.length ∧ v3 = cx (markZ (0, 0) (l.take k)).1 (markZ (0, 0) (l.take k)).2) ∧ w = wr) (fun _ v19 _ => l.length - (intOf v19).toNat)
      case atStart => exact ⟨⟨0, rfl, Nat.zero_le _, rfl⟩, rfl⟩
      case round =>
        obtain ⟨⟨k, rfl, hk, rfl⟩, rfl⟩ := hrel
        by_cases hp : k < l.length
        · obtain ⟨ad2, x, rfl, hbk, hx, hc1⟩ := hA.byte rfl k hp
          have hx256 := x.toNat_lt
          have hred := markZ_red (l.take k) (0, 0) ⟨by decide, by decide⟩
          have hmz := markZ_next (z := (0, 0)) hx
          generalize markZ (0, 0) (l.take k) = z at *
          obtain ⟨z1, z2⟩ := z
          obtain ⟨s1, s2⟩ := red_small hred
          have cM : ∀ W, Calls Tryd.prog 59 #[cx z1 z2, cx 4 1] W fun e w' => e = .returned (cx ((z1 * 4 - z2) % 8191) ((z1 + z2 * 4) % 8191)) ∧ W = w' := fun W => by
            have := mul_g W z1 z2 4 1 s1 s2 (by unfold smI; omega) (by unfold smI; omega)
            rwa [Int.mul_one, Int.mul_one] at this
          have cC : ∀ W, Calls Tryd.prog 56 #[.int .i64 ((x.toNat : Int) + 1), .int .i64 0] W fun e w' => e = .returned (cx ((x.toNat : Int) + 1) 0) ∧ W = w' := fun W => by
            have := of_g W ((x.toNat : Int) + 1) 0 (by constructor <;> omega) (by constructor <;> omega)
            rwa [show ((x.toNat : Int) + 1) % 8191 = (x.toNat : Int) + 1 by omega] at this
          have cA : ∀ W, Calls Tryd.prog 58 #[cx ((z1 * 4 - z2) % 8191) ((z1 + z2 * 4) % 8191), cx ((x.toNat : Int) + 1) 0] W fun e w' => e = .returned (cx (mkStep (z1, z2) x).1 (mkStep (z1, z2) x).2) ∧ W = w' := fun W => add_g W _ _ _ _ (by unfold smI; omega) (by unfold smI; omega) (by unfold smI; omega) (by unfold smI; omega)
          clear hred s1 s2 hA
          go_wp2_with (first
            | (go_at_call 59; (with_reducible refine (cM _).mono ?_); rintro e w1 ⟨rfl, rfl⟩)
            | (go_at_call 56; (with_reducible refine (cC _).mono ?_); rintro e w1 ⟨rfl, rfl⟩)
            | (go_at_call 58; (with_reducible refine (cA _).mono ?_); rintro e w1 ⟨rfl, rfl⟩))
          go_roundw
          case rel => exact ⟨⟨k + 1, by go_num, by omega, by rw [hmz]⟩, trivial⟩
          case measure => simp [intOf]; omega
        · obtain rfl : k = l.length := by omega
          rw [List.take_length]
          go_wp2
          go_roundw
          case rel => exact ⟨.inr ⟨rfl, rfl⟩, trivial⟩
          case measure => simp [intOf]
    · go_wp2
      go_ret
      exact ⟨rfl, rfl⟩
theorem str_rdS {w : World} {B : Nat} {v : Value} {l : List UInt8} (h : RdB w B v l) : (convert 22 9 v).run Tryd.prog w = .ok (.string ⟨l.toArray⟩) w := by
  obtain ⟨A, c, rfl, hc, hr⟩ := h
  rw [run_convert_bytes_string w 22 9 5 A l.length c Tryd.underlying22 Tryd.underlying5 Tryd.underlying9]
  rcases A with _ | ad
  · have h0 : l = [] := by
      rcases Nat.eq_zero_or_pos l.length with h0 | h0
      · exact List.eq_nil_of_length_eq_zero h0
      · obtain ⟨ad, h', _⟩ := hr.2 h0
        cases h'
    subst h0
    rfl
  · have hl : (loadCells ad l.length).run Tryd.prog w = .ok ((l.map fun b => (b.toNat : Int)).map (Value.int .u8)).toArray w := by
      have := run_loadCells_list (P := Tryd.prog) w ad ((l.map fun b => (b.toNat : Int)).map (Value.int .u8)) (fun j v hj => by
        have hjl : j < l.length := by
          have := (List.getElem?_eq_some_iff.1 hj).1
          simpa using this
        obtain ⟨ad', he', _, hcell⟩ := hr.2 (by omega)
        injection he' with he'
        subst he'
        refine hcell j v ?_
        rw [← hj]
        simp only [bvs, List.getElem?_map, Option.map_map]
        rfl)
      simpa using this
    rw [run_bytesToString w ad l.length c _ hl]
    have : ∀ (l : List UInt8) (s : ByteArray), (l.map fun b => (b.toNat : Int)).foldl (fun r n => r.push (UInt8.ofNat n.toNat)) s = ⟨(s.data.toList ++ l).toArray⟩ := by
      intro l
      induction l with
      | nil => intro s; simp
      | cons b r ih =>
        intro s
        simp only [List.map_cons, List.foldl_cons]
        rw [ih]
        simp [ByteArray.push]
    rw [this]
    rfl

abbrev bHex : ByteArray := ⟨#[48, 49, 50, 51, 52, 53, 54, 55, 56, 57, 97, 98, 99, 100, 101, 102]⟩
set_option maxRecDepth 100000 in
theorem equal_b (w : World) (a b : Value) (l m : List UInt8) (ha : RdB w w.heap.size a l) (hb : RdB w w.heap.size b m) : Calls Tryd.prog 35 #[a, b] w fun e w' => e = .returned (.bool (decide (l = m))) ∧ w = w' := by
  have h1 := str_rdS ha
  have h2 := str_rdS hb
  go_enter Tryd.func35, Tryd.ntmps35
  go_wp2
  go_ret
  exact ⟨ret_bool (by rw [Bool.eq_iff_iff]; simp), rfl⟩
theorem byte_hi (n : Int) (h0 : 0 ≤ n) (h : n < 8191) : ((UInt8.ofNat (n.toNat / 256)).toNat : Int) = n / 256 := by
  rw [UInt8.toNat_ofNat']
  omega
theorem byte_lo (n : Int) (h0 : 0 ≤ n) (h : n < 8191) : ((UInt8.ofNat n.toNat).toNat : Int) = n % 256 := by
  rw [UInt8.toNat_ofNat']
  omega
set_option maxRecDepth 100000 in
set_option maxHeartbeats 2000000 in
theorem put_m (w : World) (v : Value) (l : List UInt8) (hr : RdB w w.heap.size v l) (hl : l.length ≤ 1073741824) : Calls Tryd.prog 36 #[v] w fun e w' => ∃ v, e = .returned v ∧ OwnB w' w.heap.size v (markB l) ∧ Gr w w' := by
  have hred := markZ_red l (0, 0) ⟨by decide, by decide⟩
  obtain ⟨⟨a1, a2⟩, b1, b2⟩ := hred
  have cP := fun W => parts_g W (markZ (0, 0) l).1 (markZ (0, 0) l).2 (by omega) (by omega)
  have e1 := byte_hi _ a1 a2
  have e2 := byte_lo _ a1 a2
  have e3 := byte_hi _ b1 b2
  have e4 := byte_lo _ b1 b2
  obtain ⟨A, c, rfl, hc, hA⟩ := id hr
  have cO := of_m (w.alloc (.cells #[.slice A l.length c] 22)) w.heap.size l ⟨w.heap.size, 0, none⟩ _ ((Blk.new w _ _).cell 0) (hr.gr (Nat.le_refl _) (Gr.alloc _ _)) hl
  have hmb : markB l = bytesZ (markZ (0, 0) l) := rfl
  rw [hmb]
  generalize markZ (0, 0) l = z at *
  go_enter Tryd.func36, Tryd.ntmps36
  go_wp2_with (first
    | (go_at_call 48; (with_reducible refine cO.mono ?_); rintro e w1 ⟨rfl, rfl⟩)
    | (go_at_call 47; (with_reducible refine (cP _).mono ?_); rintro e w1 ⟨rfl, rfl⟩))
  go_ret
  have hO := OwnB.new (w.alloc (.cells #[.slice A l.length c] 22)) (bytesZ z) w.heap.size (by simp) (by simp [maxLen, bytesZ]) #[.int .u8 (z.1 / 256), .int .u8 (z.1 % 256), .int .u8 (z.2 / 256), .int .u8 (z.2 % 256)] (by unfold bvs bytesZ; simp only [List.map_cons, List.map_nil, bv]; rw [e1, e2, e3, e4])
  rw [show (w.alloc (.cells #[.slice A l.length c] 22)).heap.size = w.heap.size + 1 by simp] at hO
  exact ⟨_, rfl, hO, Below.trans (Gr.alloc _ _) ((Gr.alloc _ _).mono (by simp))⟩
theorem check_m (w : World) (v u : Value) (l m : List UInt8) (hr : RdB w w.heap.size v l) (hu : RdB w w.heap.size u m) (hl : l.length ≤ 1073741824) : Calls Tryd.prog 33 #[v, u] w fun e w' => e = .returned (.bool (decide (markB l = m))) ∧ Gr w w' := by
  have cP := put_m w v l hr hl
  obtain ⟨A, c, rfl, hc, hA⟩ := id hr
  obtain ⟨A2, c2, rfl, hc2, hA2⟩ := id hu
  go_enter Tryd.func33, Tryd.ntmps33
  go_wp2_with (first
    | (go_at_call 36; (with_reducible refine cP.mono ?_); rintro e w1 ⟨x, rfl, hx1, hg1⟩
       have cE := equal_b w1 _ _ _ _ hx1.rd ((hu.gr (Nat.le_refl _) hg1).more hg1.size))
    | (go_at_call 35; (with_reducible refine cE.mono ?_); rintro e w1 ⟨rfl, rfl⟩))
  go_ret
  exact ⟨rfl, hg1⟩
end Go.Proofs.YtlbldmpiaebeeaaDoor
