/- Events: an event as bytes. -/
import Derived.Test.YtppnlijeonneeaaDoorEvTell
import Derived.Test.YtppnlijeonneeaaDoorFacts
namespace Go.Proofs.YtppnlijeonneeaaDoor
open Go Go.RowKit Go.Sort

theorem Reads.lit (w : World) (t : TypeId) (cs : Array Value) : Reads (w.alloc (.cells cs t)) (w.alloc (.cells cs t)).heap.size 1 (some ⟨w.heap.size, 0, none⟩) cs.size cs.toList := by
  refine ⟨by simp, fun _ => ⟨_, rfl, ?_, fun j u hu => ?_⟩⟩
  · exact (Blk.new w t cs).lt
  · have e : (⟨w.heap.size, 0, none⟩ : Addr).add j = ⟨w.heap.size, j, none⟩ := by
      unfold Addr.add
      split
      · rename_i h0; simp_all
      · simp
    rw [e, (Blk.new w t cs).cell j]
    simpa using hu
theorem RdL.nil (w : World) (B : Nat) : RdL w B [] [] := ⟨rfl, fun i v l h _ => by simp at h⟩
theorem RdL.cons {w : World} {B : Nat} {v : Value} {l : List UInt8} {vs : List Value} {ls : List (List UInt8)} (h : RdB w B v l) (hs : RdL w B vs ls) : RdL w B (v :: vs) (l :: ls) :=
  ⟨by simp [hs.1], fun i v' l' hv hl => match i with
    | 0 => by simp only [List.getElem?_cons_zero, Option.some.injEq] at hv hl; subst hv; subst hl; exact h
    | i + 1 => hs.2 i v' l' (by simpa using hv) (by simpa using hl)⟩
theorem Reads.far {w w' : World} {B size n : Nat} {A : Option Addr} {xs : List Value} (h : Reads w B size A n xs) (hk : ∀ ad, A = some ad → ad.block < B → ∀ p : Addr, p.block = ad.block → w'.cell? p = w.cell? p) : Reads w' B size A n xs :=
  ⟨h.1, fun hn => by
    obtain ⟨ad, e, hb, hc⟩ := h.2 hn
    exact ⟨ad, e, hb, fun j u hu => (hk ad e hb _ (block_of_add _ _)).trans (hc j u hu)⟩⟩
/-- A slice that reads as these bytes, in a block from base on. -/
def RdN (w : World) (base : Nat) (v : Value) (l : List UInt8) : Prop := ∃ A c, v = .slice A l.length c ∧ l.length ≤ c ∧ Reads w w.heap.size 1 A l.length (bvs l) ∧ ∀ ad, A = some ad → base ≤ ad.block
def fRdN (base : Nat) (l : List UInt8) : Fact := ⟨fun v w => RdN w base v l, fun _ _ _ ⟨A, c, e, hc, hr, hn⟩ hg => ⟨A, c, e, hc, (hr.keep fun _ hp => hg.cell hp).more hg.size, hn⟩⟩
theorem RdN.rd {w : World} {base : Nat} {v : Value} {l : List UInt8} (h : RdN w base v l) : RdB w w.heap.size v l := by
  obtain ⟨A, c, e, hc, hr, _⟩ := h
  exact ⟨A, c, e, hc, hr⟩
/-- It stays where an older row of one's own grows. -/
theorem RdN.grown {w w' : World} {base : Nat} {v vb : Value} {l : List UInt8} (h : RdN w base v l) (hg : w.grownBy w' vb.ownBlock) (hs : w.heap.size ≤ w'.heap.size) (ho : ∀ g, vb.ownBlock = some g → g < base) : RdN w' base v l := by
  obtain ⟨A, c, e, hc, hr, hn⟩ := h
  refine ⟨A, c, e, hc, Reads.more (Reads.far hr fun ad ha hlt p hp => ?_) hs, hn⟩
  have hn' := hn ad ha
  exact World.cell?_of_block (hg.block p.block (by omega) (fun e => by have := ho _ e.symm; omega))
def fOwn (base : Nat) (l : List UInt8) : Fact := ⟨fun v w => OwnB w base v l, fun _ _ _ h hg => h.gr hg⟩
def fRd (l : List UInt8) : Fact := ⟨fun v w => RdB w w.heap.size v l, fun _ _ _ h hg => (h.gr (Nat.le_refl _) hg).more hg.size⟩
/-- A list of slices that read as these lists of bytes. -/
def fList (ls : List (List UInt8)) : Fact := ⟨fun v w => ∃ A c vs, v = .slice A ls.length c ∧ Reads w w.heap.size 1 A ls.length vs ∧ RdL w w.heap.size vs ls,
  fun _ _ _ ⟨A, c, vs, e, h1, h2⟩ hg => ⟨A, c, vs, e, (h1.keep fun _ hp => hg.cell hp).more hg.size, h2.1, fun i v l hv hl => ((h2.2 i v l hv hl).gr (Nat.le_refl _) hg).more hg.size⟩⟩
theorem conv_str (w : World) (s : ByteArray) : (convert 9 49 (.string s)).run Tryd.prog w = .ok (.slice (some ⟨w.heap.size, 0, none⟩) s.size (grownCap w s.size 0 5)) (Lib.bytesWorld w 5 s) :=
  Lib.run_convert_string_bytes (P := Tryd.prog) w 9 49 5 s Tryd.underlying9 Tryd.underlying49 Tryd.underlying5
theorem conv_rd (w : World) (s : ByteArray) : RdB (Lib.bytesWorld w 5 s) (Lib.bytesWorld w 5 s).heap.size (.slice (some ⟨w.heap.size, 0, none⟩) s.size (grownCap w s.size 0 5)) s.data.toList := by
  have hl : s.data.toList.length = s.size := by simp
  refine ⟨some ⟨w.heap.size, 0, none⟩, _, by rw [hl], ?_, by simp [bvs], fun _ => ⟨_, rfl, ?_, fun j u hu => ?_⟩⟩
  · rw [hl]; exact grownCap_ge _ _ _ _
  · rw [Lib.bytesWorld_size]; show w.heap.size < _; omega
  · have hj : j < s.size := by
      have := (List.getElem?_eq_some_iff.1 hu).1
      simpa [bvs] using this
    have := Lib.bytesWorld_cell w 5 s j hj
    have e : (⟨w.heap.size, 0, none⟩ : Addr).add j = ⟨w.heap.size, j, none⟩ := by
      unfold Addr.add
      split
      · rename_i h0; simp_all
      · simp
    rw [e, this]
    simp only [bvs, List.getElem?_map] at hu
    rw [List.getD_eq_getElem?_getD]
    cases hx : s.data.toList[j]? with
    | none => rw [hx] at hu; cases hu
    | some x => rw [hx] at hu; simpa [bv] using hu
theorem conv_rdN (w : World) (s : ByteArray) (base : Nat) (hb : base ≤ w.heap.size) : RdN (Lib.bytesWorld w 5 s) base (.slice (some ⟨w.heap.size, 0, none⟩) s.size (grownCap w s.size 0 5)) s.data.toList := by
  obtain ⟨A, c, e, hc, hr⟩ := conv_rd w s
  refine ⟨A, c, e, hc, hr, fun ad ha => ?_⟩
  injection e with e _ _
  rw [← e] at ha
  obtain rfl := Option.some.inj ha
  exact hb
theorem OwnB.lt {w : World} {base g : Nat} {v : Value} {l : List UInt8} (h : OwnB w base v l) (hg : v.ownBlock = some g) : g < w.heap.size := by
  rcases h.2 with ⟨rfl, _⟩ | ⟨g', cap, cur, rfl, e2, e3, _⟩
  · simp [Value.ownBlock] at hg
  · have : g' = g := by simpa [Value.ownBlock] using hg
    subst this
    rcases Nat.lt_or_ge g' w.heap.size with h' | h'
    · exact h'
    · rw [Array.getElem?_eq_none h'] at e3; cases e3
def fOwnAt (base : Nat) (vb : Value) (l : List UInt8) : Fact := ⟨fun v w => v = vb ∧ OwnB w base vb l, fun _ _ _ h hg => ⟨h.1, h.2.gr hg⟩⟩
/-- An event's bytes. -/
def evL (k t : Int) (a b : ByteArray) : List UInt8 := [UInt8.ofNat k.toNat] ++ numB t.toNat ++ textB a.data.toList ++ textB b.data.toList
def evB (k t : Int) (a b : ByteArray) : List UInt8 := if mayD k t a b then evL k t a b else []
def evE (k t : Int) (a b : ByteArray) : Int := if mayD k t a b then 0 else 1

theorem ev_flat (k t : Int) (a b : ByteArray) : [[UInt8.ofNat k.toNat], numB t.toNat, textB a.data.toList, textB b.data.toList].flatten = evL k t a b := by simp [evL]
theorem ev_len (k t : Int) (a b : ByteArray) (h0 : 0 ≤ t) (h : t ≤ 1099511627776) (ha : a.size ≤ 16) (hb : b.size ≤ 16) : (evL k t a b).length ≤ 1073741824 := by
  have h1 := numB_len t.toNat (by omega)
  have h2 := numB_len a.size (by omega)
  have h3 := numB_len b.size (by omega)
  simp [evL, textB]
  omega
theorem RdL.more {w : World} {B B' : Nat} {vs : List Value} {ls : List (List UInt8)} (h : RdL w B vs ls) (hB : B ≤ B') : RdL w B' vs ls := ⟨h.1, fun i v l h1 h2 => (h.2 i v l h1 h2).more hB⟩

section
variable (k t : Int) (a b : ByteArray) (w : World)
end
end Go.Proofs.YtppnlijeonneeaaDoor
