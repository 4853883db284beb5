/- Scopes: has one few parts? may it be? the reference's counts. Scopes as texts: the reference's kid. Scopes as texts: the reference's text of a leaf that has a name, or is all. Scopes as texts: the reference's text of a time. -/
import Derived.Test.YtppnlijeonneeaaGreatDoorPkA
import Derived.Test.YtppnlijeonneeaaGreatDoorGenS
import Derived.Test.YtppnlijeonneeaaGreatDoorSpanX
import Derived.Lib.QuietBelow
namespace Go.Proofs.YtppnlijeonneeaaGreatDoor
open Go Go.RowKit Go.Sort

theorem ret_w {a b : Int} (h : a = b) : Ending.returned (.int .i64 a) = Ending.returned (.int .i64 b) := by rw [h]
theorem rnamed_yes (op : Int) (w : World) (h : op = 2 ∨ op = 3 ∨ op = 4) : Calls Tryz.prog 42 #[.int .i64 op] w fun e w' => e = .returned (.bool true) ∧ w = w' := by
  rcases h with rfl | rfl | rfl
  all_goals
    go_enter Tryz.func42, Tryz.ntmps42
    go_wp2
    go_ret
    exact ⟨rfl, rfl⟩
theorem rnamed_no (op : Int) (w : World) (h : op = 1 ∨ op = 5 ∨ op = 6 ∨ op = 7 ∨ op = 8) : Calls Tryz.prog 42 #[.int .i64 op] w fun e w' => e = .returned (.bool false) ∧ w = w' := by
  rcases h with rfl | rfl | rfl | rfl | rfl
  all_goals
    go_enter Tryz.func42, Tryz.ntmps42
    go_wp2
    go_ret
    exact ⟨rfl, rfl⟩
end Go.Proofs.YtppnlijeonneeaaGreatDoor

namespace Go.Proofs.YtppnlijeonneeaaGreatDoor
open Go Go.RowKit Go.Sort

end Go.Proofs.YtppnlijeonneeaaGreatDoor

namespace Go.Proofs.YtppnlijeonneeaaGreatDoor
open Go Go.RowKit Go.Sort

theorem named_wa (l : List UInt8) (nm : ByteArray) : (⟨l.toArray⟩ : ByteArray) ++ nm = wa (l ++ nm.data.toList) := by
  have h := wa_append l nm.data.toList
  rw [data_wa] at h
  exact h
end Go.Proofs.YtppnlijeonneeaaGreatDoor

namespace Go.Proofs.YtppnlijeonneeaaGreatDoor
open Go Go.RowKit Go.Sort

theorem time_text {nm : ByteArray} {fr to_ : Int} {ks : List Sc} : wa (textS (.mk 5 nm fr to_ ks)) = ((⟨#[116, 105, 109, 101, 32]⟩ ++ wa (Lib.itoa fr)) ++ ⟨#[45]⟩) ++ wa (Lib.itoa to_) := by
  rw [textS, if_neg (by omega), if_neg (by omega), if_pos rfl, show (⟨#[116, 105, 109, 101, 32]⟩ : ByteArray) = wa [116, 105, 109, 101, 32] from rfl, show (⟨#[45]⟩ : ByteArray) = wa [45] from rfl, wa_append, wa_append, wa_append]
end Go.Proofs.YtppnlijeonneeaaGreatDoor
