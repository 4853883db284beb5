/- Disks: a map's keys in order. -/
import Derived.Test.YtlbldmpiaebeeaaDoorDkB
import Derived.Lib.SlKeysI
namespace Go.Proofs.YtlbldmpiaebeeaaDoor
open Go Go.RowKit Go.Maps Go.MapKept Go.ChangeMaps

theorem keysW_mem {n : Nat} {f : Nat → Option Value} {i : Nat} : i ∈ keysW n f ↔ i < n ∧ (f i).isSome = true := by
  unfold keysW
  rw [List.mem_filter, List.mem_range]
theorem keysW_le (n : Nat) (f : Nat → Option Value) : ((keysW n f).map Int.ofNat).Pairwise (fun a b => (decide (a ≤ b) : Bool) = true) := by
  refine List.pairwise_map.2 ((List.pairwise_lt_range (n := n)).filter _ |>.imp fun {a b} h => ?_)
  simp only [decide_eq_true_eq]
  show (a : Int) ≤ b
  omega
theorem keysW_nodup (n : Nat) (f : Nat → Option Value) : ((keysW n f).map Int.ofNat).Nodup := by
  refine List.pairwise_map.2 ((List.pairwise_lt_range (n := n)).filter _ |>.imp fun {a b} h e => ?_)
  have : (a : Int) = b := e
  omega
section
variable {P : Program} {k : TypeId} {w : World} {b m n : Nat} {f : Nat → Option Value} {D : DataW Value}
theorem keys_perm (h : w.ownsMap P k heldW b m D) (hk : P.underlying k = some (.int .i64)) (h1 : ∀ i, i < n → ∀ v, f i = some v → ∀ zd, D.atKey (.int .i64 i) zd = .held v) (h2 : ∀ i, i < n → f i = none → Maps.has D (.int .i64 i) = false)
    (h3 : ∀ kl, Maps.has D kl = true → ∃ i : Nat, i < n ∧ kl = .int .i64 i) : ((keysW n f).map Int.ofNat).Perm (intKeys D) := by
  obtain ⟨es, rfl, hpw, hkl⟩ := h.entries (int_keyed hk)
  have hin : ∀ x : Int, x ∈ (keysW n f).map Int.ofNat ↔ Maps.has (.map es) (.int .i64 x) = true := fun x => by
    rw [List.mem_map]
    constructor
    · rintro ⟨i, hi, rfl⟩
      obtain ⟨hl, hs⟩ := keysW_mem.1 hi
      obtain ⟨v, hv⟩ := Option.isSome_iff_exists.1 hs
      exact has_true_of_atKey (h1 i hl v hv)
    · intro hh
      obtain ⟨i, hl, e⟩ := h3 _ hh
      injection e with _ e
      subst e
      refine ⟨i, keysW_mem.2 ⟨hl, ?_⟩, rfl⟩
      cases hf : f i with
      | some v => rfl
      | none => rw [h2 i hl hf] at hh; cases hh
  have hks : ∀ p ∈ es, ∃ x, p.1 = .int .i64 x := fun p hp => by
    have : Maps.has (.map es) p.1 = true := List.any_eq_true.2 ⟨p, hp, WideAt.sameKey_self (hkl p hp)⟩
    obtain ⟨i, _, e⟩ := h3 _ this
    exact ⟨_, e⟩
  exact perm_intKeys hpw hks (keysW_nodup n f) hin
theorem keys_sorted {ss : List Int} (h : ((keysW n f).map Int.ofNat).Perm (intKeys D)) (hp : ss.Perm (intKeys D)) : ss.mergeSort (fun x y => decide (x ≤ y)) = (keysW n f).map Int.ofNat := by
  rw [mergeSort_of_perm_i (hp.trans h.symm)]
  exact List.mergeSort_of_pairwise (keysW_le n f)
theorem keysW_len (n : Nat) (f : Nat → Option Value) : (keysW n f).length ≤ n := by
  have := List.length_filter_le (fun i => (f i).isSome) (List.range n)
  rwa [List.length_range] at this
theorem size_keys (h : w.ownsMap P k heldW b m D) (hk : P.underlying k = some (.int .i64)) (hp : ((keysW n f).map Int.ofNat).Perm (intKeys D)) : Maps.size D ≤ n := by
  obtain ⟨es, rfl, _, _⟩ := h.entries (int_keyed hk)
  have h1 := hp.length_eq
  have h2 := keysW_len n f
  rw [List.length_map] at h1
  rw [show (intKeys (.map es)).length = es.length from List.length_map _] at h1
  show es.length ≤ n
  omega
end
theorem pendS_keys : ∀ (ws : List (Option (List UInt8))) (j : Nat), pendS j ws = ((List.range ws.length).filter fun i => (ws.getD i none).isSome).map (j + ·)
  | [], j => rfl
  | x :: ws, j => by
    rw [List.length_cons, List.range_succ_eq_map, List.filter_cons, List.filter_map]
    have ih := pendS_keys ws (j + 1)
    have e : ((fun i => ((x :: ws).getD i none).isSome) ∘ Nat.succ) = fun i => (ws.getD i none).isSome := by funext i; rfl
    rw [e]
    have e2 : (List.map Nat.succ ((List.range ws.length).filter fun i => (ws.getD i none).isSome)).map (j + ·) = ((List.range ws.length).filter fun i => (ws.getD i none).isSome).map (j + 1 + ·) := by
      rw [List.map_map]
      refine List.map_congr_left fun i _ => ?_
      show j + (i + 1) = j + 1 + i
      omega
    cases x with
    | none =>
      rw [pendS_z, ih, ← e2]
      rfl
    | some l =>
      rw [pendS_s, ih, ← e2]
      rfl
theorem pending_keys {d : Dk} {n : Nat} {f : Nat → Option Value} (hl : d.wait.length = n) (h : ∀ i, i < n → (f i).isSome = (d.wait.getD i none).isSome) : keysW n f = d.pending := by
  unfold Dk.pending
  rw [pendS_keys, hl]
  unfold keysW
  rw [List.filter_congr (q := fun i => (d.wait.getD i none).isSome) (fun i hi => by rw [h i (List.mem_range.1 hi)])]
  rw [show ((0 + ·) : Nat → Nat) = id from funext fun i => Nat.zero_add i, List.map_id]
end Go.Proofs.YtlbldmpiaebeeaaDoor
