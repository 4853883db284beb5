/- Ints, texts and lists of parts as bytes: tlv.Int, Text, All; the reference's Int, Text, Copy, Same. -/
import Derived.Test.YtppnlijeonneeaaGreatDoorEvNum
namespace Go.Proofs.YtppnlijeonneeaaGreatDoor
open Go Go.RowKit

section
variable (n : Nat) (w : World)
end

section
variable (w : World) (B : Nat) (v : Value) (l : List UInt8)
end

/-- A list of slices that read as these lists of bytes. -/
def RdL (w : World) (B : Nat) (vs : List Value) (ls : List (List UInt8)) : Prop := vs.length = ls.length ∧ ∀ (i : Nat) (v : Value) (l : List UInt8), vs[i]? = some v → ls[i]? = some l → RdB w B v l
theorem RdL.gr {w w' : World} {B : Nat} {vs : List Value} {ls : List (List UInt8)} (h : RdL w B vs ls) (hB : B ≤ w.heap.size) (hg : Gr w w') : RdL w' B vs ls := ⟨h.1, fun i v l h1 h2 => (h.2 i v l h1 h2).gr hB hg⟩

end Go.Proofs.YtppnlijeonneeaaGreatDoor
