/- The lexicon of the statements. -/
import Derived.Test.YtbbgieopcmjoeaaGreatDoorSameTexts
namespace Go.Proofs.YtbbgieopcmjoeaaGreatDoor
open Go.RowKit
def exL : List Ent := [([65, 110, 110], 3, [97, 110, 110]), ([66, 111, 98], 3, [98, 111, 98]), ([98, 111, 111, 107], 1, [66, 111, 111, 107]), ([104, 97, 112, 112, 121], 2, [72, 97, 112, 112, 121]), ([107, 110, 111, 119], 5, [75, 110, 111, 119, 115]), ([111, 119, 108], 1, [79, 119, 108]), ([112, 108, 97, 121], 4, [80, 108, 97, 121, 115]), ([112, 108, 97, 121], 5, [80, 108, 97, 121, 105, 110, 103]), ([115, 108, 101, 101, 112], 4, [83, 108, 101, 101, 112, 115]), ([115, 116, 117, 100, 101, 110, 116], 1, [83, 116, 117, 100, 101, 110, 116]), ([119, 97, 116, 99, 104], 1, [87, 97, 116, 99, 104]), ([119, 97, 116, 99, 104], 5, [87, 97, 116, 99, 104, 101, 115])]
/-- A new block that reads as a slice, however its cells are written. -/
theorem Reads.new2 (w : World) (t : TypeId) (size n : Nat) (cs : Array Value) (xs : List Value) (h : xs.length = n * size) (hc : cs = xs.toArray) : Reads (w.alloc (.cells cs t)) (w.alloc (.cells cs t)).heap.size size (some ⟨w.heap.size, 0, none⟩) n xs := by
  subst hc
  have := Reads.new w t size n xs h
  simpa using this
set_option maxRecDepth 100000 in
set_option maxHeartbeats 1600000 in
theorem example_any (w : World) : Calls Tryz.prog 29 #[] w fun e w' => ∃ A, e = .returned (.slice A 12 12) ∧ Reads w' w'.heap.size 3 A 12 (flat exL) ∧ Below w.heap.size w w' := by
  go_enter Tryz.func29, Tryz.ntmps29
  go_wp2_with fail
  go_ret
  exact ⟨some ⟨w.heap.size, 0, none⟩, rfl, Reads.new2 w 24 3 12 _ (flat exL) (by kernel_rfl) (by kernel_rfl), (Below.refl _ _).alloc (Nat.le_refl _) _⟩
end Go.Proofs.YtbbgieopcmjoeaaGreatDoor
