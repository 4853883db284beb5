/- The walk of span.Parse. -/
import Derived.Test.YtppnlijeonneeaaDoorSpanT
import Derived.Lib.QuietBelow
namespace Go.Proofs.YtppnlijeonneeaaDoor
open Go Go.RowKit Go.Sort

theorem below_drewNr {B : Nat} {a w : World} (h : Below B a w) (n : Nat) : Below B a (w.drewN n) := ⟨h.os, h.tape, h.output, h.size, h.block⟩
theorem bytes_below (w : World) (e : TypeId) (s : ByteArray) : Below w.heap.size w (Lib.bytesWorld w e s) := by
  unfold Lib.bytesWorld World.freeze
  split
  · exact ((Below.refl _ _).drew).alloc (Nat.le_refl _) _
  · have h := ((Below.refl w.heap.size w).drew).alloc (Nat.le_refl _) (.cells (Lib.bytesCells w e s) e)
    refine ⟨h.os, h.tape, h.output, by simp, fun k hk => ?_⟩
    rw [← h.block k hk]
    simp only [Array.getElem?_modify]
    rw [if_neg (by omega)]
/-- What the two variables of strconv hold: some errors. -/
def Errs (w : World) : Prop := (∃ tp p, w.var? Tryd.prog "strconv.ErrSyntax" = some #[.iface tp p]) ∧ ∃ tp p, w.var? Tryd.prog "strconv.ErrRange" = some #[.iface tp p]

theorem atoi_err (s : ByteArray) (w : World) (hs : s.size ≤ 281474976710656) (hE : Errs w) (h : ∀ v, Lib.atoiAll s.data.toList ≠ .ok v) :
    Calls Tryd.prog 25 #[.string s] w fun e w' => ∃ v N, e = .returned (.tuple #[.int .i64 v, .iface 102 (.pointer (some ⟨N, 0, none⟩))]) ∧ Below w.heap.size w w' := by
  obtain ⟨⟨t1, p1, h1⟩, ⟨t2, p2, h2⟩⟩ := hE
  rcases hc : Lib.atoiAll s.data.toList with v | _ | _
  · exact absurd hc (h v)
  · exact (show Calls Tryd.prog 25 #[.string s] w fun e w' => ∃ N, e = .returned (.tuple #[.int .i64 0, .iface 102 (.pointer (some ⟨N, 0, none⟩))]) ∧ w.heap.size ≤ N ∧ w'.heap[N]? = some (.cells #[.string ⟨#[65, 116, 111, 105]⟩, .string s, .iface t1 p1] 125 (0, 0)) ∧ Below w.heap.size w w' from
      Any.strconv_Atoi_syntax_var Tryd.laysC172 s hs hc t1 p1 w h1).mono fun _ _ ⟨N, he, _, _, hb⟩ => ⟨0, N, he, hb⟩
  · exact (show Calls Tryd.prog 25 #[.string s] w fun e w' => ∃ N, e = .returned (.tuple #[.int .i64 (Lib.atoiSat s.data.toList), .iface 102 (.pointer (some ⟨N, 0, none⟩))]) ∧ w.heap.size ≤ N ∧ w'.heap[N]? = some (.cells #[.string ⟨#[65, 116, 111, 105]⟩, .string s, .iface t2 p2] 125 (0, 0)) ∧ Below w.heap.size w w' from
      Any.strconv_Atoi_range_var Tryd.laysC172 s hs hc t2 p2 w h2).mono fun _ _ ⟨N, he, _, _, hb⟩ => ⟨_, N, he, hb⟩
theorem atoi_ok (s : ByteArray) (v : Int) (w : World) (hs : s.size ≤ 281474976710656) (h : Lib.atoiAll s.data.toList = .ok v) :
    Calls Tryd.prog 25 #[.string s] w fun e w' => e = .returned (.tuple #[.int .i64 v, .nilIface]) ∧ Below w.heap.size w w' :=
  (Tryd.strconv_Atoi_ok s (by omega) v h w).mono fun _ _ ⟨he, hw⟩ => ⟨he, by
    rcases hw with rfl | ⟨t, rfl⟩
    · exact Below.refl _ _
    · exact bytes_below _ _ _⟩

/-- The span of a text. -/
def lastD (s : ByteArray) : Int := ((s.data.toList.getD (s.size - 1) 0).toNat : Int)
def parseD (s : ByteArray) : Int × Int :=
  if s.size < 2 ∨ 8 < s.size ∨ unitD (lastD s) = 0 then (0, 2) else
  match Lib.atoiAll (s.data.toList.take (s.size - 1)) with
  | .ok v => if v < 0 ∨ Lib.itoa v ≠ s.data.toList.take (s.size - 1) then (0, 2) else daysD v (lastD s)
  | _ => (0, 2)
theorem ext_list (s : ByteArray) (k : Nat) (_ : k ≤ s.size) : (s.extract 0 k).data.toList = s.data.toList.take k := by
  simp [ByteArray.data_extract, Array.toList_extract, List.extract]
theorem last_eq (s : ByteArray) (h : s.size - 1 < s.size) : (s[s.size - 1].toNat : Int) = lastD s := by
  unfold lastD
  have : s.data.toList.getD (s.size - 1) 0 = s[s.size - 1] := by
    rw [List.getD_eq_getElem?_getD, List.getElem?_eq_getElem (by simpa using h)]
    rfl
  rw [this]
theorem atoiAll_le {l : List UInt8} {v : Int} (h : Lib.atoiAll l = .ok v) : v ≤ 9223372036854775807 := by
  unfold Lib.atoiAll at h
  split at h
  · cases h
  · dsimp only at h
    split at h
    · cases h
    · cases h
    · split at h
      · cases h
      · split at h
        · cases h
        · injection h with h
          subst h
          split <;> omega
theorem bne_of {a b : List UInt8} (h : a ≠ b) : (!(a == b)) = true := by simpa using h
end Go.Proofs.YtppnlijeonneeaaDoor
