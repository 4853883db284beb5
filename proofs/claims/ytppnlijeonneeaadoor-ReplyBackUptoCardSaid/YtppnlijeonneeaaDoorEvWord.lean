/- Events: a kind's word, names that may be empty, which events may be. -/
import Derived.Test.YtppnlijeonneeaaDoorEvName
import Derived.Test.YtppnlijeonneeaaDoorEvText
namespace Go.Proofs.YtppnlijeonneeaaDoor
open Go Go.RowKit

def wordsL : List ByteArray := [⟨#[]⟩, ⟨#[115, 99, 104, 101, 100, 117, 108, 101]⟩, ⟨#[99, 97, 115, 101]⟩, ⟨#[115, 117, 98, 106, 101, 99, 116]⟩, ⟨#[105, 110, 103, 101, 115, 116]⟩, ⟨#[109, 105, 108, 101]⟩, ⟨#[114, 101, 99, 108, 97, 115, 115]⟩, ⟨#[104, 111, 108, 100]⟩, ⟨#[114, 101, 108, 101, 97, 115, 101]⟩, ⟨#[97, 109, 101, 110, 100]⟩, ⟨#[112, 117, 114, 103, 101]⟩, ⟨#[101, 114, 97, 115, 101]⟩, ⟨#[115, 104, 114, 101, 100]⟩, ⟨#[107, 101, 101, 112]⟩, ⟨#[114, 101, 100, 97, 99, 116]⟩]
/-- A kind's word; empty: there is no such kind. -/
def wordD (k : Int) : ByteArray := if k < 0 then ⟨#[]⟩ else wordsL.getD k.toNat ⟨#[]⟩

theorem word_at : ∀ k : Nat, k < 15 → (#[.string ⟨#[]⟩, .string ⟨#[115, 99, 104, 101, 100, 117, 108, 101]⟩, .string ⟨#[99, 97, 115, 101]⟩, .string ⟨#[115, 117, 98, 106, 101, 99, 116]⟩, .string ⟨#[105, 110, 103, 101, 115, 116]⟩, .string ⟨#[109, 105, 108, 101]⟩, .string ⟨#[114, 101, 99, 108, 97, 115, 115]⟩, .string ⟨#[104, 111, 108, 100]⟩, .string ⟨#[114, 101, 108, 101, 97, 115, 101]⟩, .string ⟨#[97, 109, 101, 110, 100]⟩, .string ⟨#[112, 117, 114, 103, 101]⟩, .string ⟨#[101, 114, 97, 115, 101]⟩, .string ⟨#[115, 104, 114, 101, 100]⟩, .string ⟨#[107, 101, 101, 112]⟩, .string ⟨#[114, 101, 100, 97, 99, 116]⟩] : Array Value)[k]? = some (.string (wordsL.getD k ⟨#[]⟩))
  | 0, _ => rfl | 1, _ => rfl | 2, _ => rfl | 3, _ => rfl | 4, _ => rfl | 5, _ => rfl | 6, _ => rfl | 7, _ => rfl | 8, _ => rfl | 9, _ => rfl | 10, _ => rfl | 11, _ => rfl | 12, _ => rfl | 13, _ => rfl | 14, _ => rfl
  | k + 15, h => by omega

end Go.Proofs.YtppnlijeonneeaaDoor
