/- package words: the function words. -/
import Derived.Test.YtbbgieopcmjoeaaGreatDoorMaps
import Derived.Test.YtbbgieopcmjoeaaGreatDoorWords1
namespace Go.Proofs.YtbbgieopcmjoeaaGreatDoor
open Go.RowKit Go.ChangeMaps
def fwL : List (List UInt8) := [[97], [97, 110], [97, 110, 100], [100, 111, 101, 115], [101, 97, 99, 104], [101, 118, 101, 114, 121], [104, 101], [105, 102], [105, 102, 102], [105, 115], [105, 116], [110, 111], [110, 111, 116], [111, 114], [115, 104, 101], [115, 111, 109, 101], [116, 104, 97, 116], [116, 104, 101], [116, 104, 101, 110], [119, 104, 111]]
def fwE (k : Nat) : List (List UInt8 × Value) := (fwL.take k).zipIdx.map fun p => (p.1, num (p.2 + 1))
abbrev kS (l : List UInt8) : Value := str l
def isFn (l : List UInt8) : Bool := fwL.contains l
theorem fwE_succ (k : Nat) (hk : k < 20) : fwE (k + 1) = fwE k ++ [(fwL.getD k [], num (k + 1))] := by
  have : k = 0 ∨ k = 1 ∨ k = 2 ∨ k = 3 ∨ k = 4 ∨ k = 5 ∨ k = 6 ∨ k = 7 ∨ k = 8 ∨ k = 9 ∨ k = 10 ∨ k = 11 ∨ k = 12 ∨ k = 13 ∨ k = 14 ∨ k = 15 ∨ k = 16 ∨ k = 17 ∨ k = 18 ∨ k = 19 := by omega
  rcases this with rfl | rfl | rfl | rfl | rfl | rfl | rfl | rfl | rfl | rfl | rfl | rfl | rfl | rfl | rfl | rfl | rfl | rfl | rfl | rfl <;> rfl
theorem fwE_new (k : Nat) (hk : k < 20) : assoc (fwL.getD k []) (fwE k) = none := by
  have : k = 0 ∨ k = 1 ∨ k = 2 ∨ k = 3 ∨ k = 4 ∨ k = 5 ∨ k = 6 ∨ k = 7 ∨ k = 8 ∨ k = 9 ∨ k = 10 ∨ k = 11 ∨ k = 12 ∨ k = 13 ∨ k = 14 ∨ k = 15 ∨ k = 16 ∨ k = 17 ∨ k = 18 ∨ k = 19 := by omega
  rcases this with rfl | rfl | rfl | rfl | rfl | rfl | rfl | rfl | rfl | rfl | rfl | rfl | rfl | rfl | rfl | rfl | rfl | rfl | rfl | rfl <;> rfl
theorem assoc_pos : ∀ (ws : List (List UInt8)) (l : List UInt8) (n : Nat), (∃ c : Int, (assoc l ((ws.zipIdx n).map fun p => (p.1, num (p.2 + 1)))).getD (.int .i64 0) = .int .i64 c ∧ (decide (0 < c)) = ws.contains l)
  | [], l, n => ⟨0, rfl, rfl⟩
  | v :: ws, l, n => by
    simp only [List.zipIdx_cons, List.map_cons, assoc]
    by_cases h : l = v
    · exact ⟨n + 1, by simp [h], by subst h; simp⟩
    · obtain ⟨c, h1, h2⟩ := assoc_pos ws l (n + 1)
      exact ⟨c, by rw [if_neg h]; exact h1, by rw [h2]; simp [h]⟩
theorem isFn_assoc (l : List UInt8) : ∃ c : Int, (assoc l (fwE 20)).getD (.int .i64 0) = .int .i64 c ∧ (decide (0 < c)) = isFn l := by
  have := assoc_pos fwL l 0
  exact this
def fwCells : List Value := fwL.map kS
theorem fw_cell (k : Nat) (hk : k < 20) : fwCells[k]? = some (kS (fwL.getD k [])) := by
  have hl : k < fwL.length := by simpa [fwL] using hk
  simp [fwCells, hl]
theorem zero_int (w : World) : (zeroValue 3).run Tryz.prog w = .ok (.int .i64 0) w := by kernel_rfl
theorem fw_update {w : World} {b k : Nat} (h : MapIs w b kS (fwE k)) (hk : k < 20) : ∃ w', (Instr.mapUpdate 89 (.map (some b)) (kS (fwL.getD k [])) (.int .i64 ((k : Int) + 1))).run Tryz.prog w = .ok () w' ∧ MapIs w' b kS (fwE (k + 1)) ∧ w.grownBy w' (some b) := by
  rw [fwE_succ k hk]
  exact run_update_new Tryz.underlying89 Tryz.underlying9 same_str (check_str Tryz.underlying9) h _ _ (fwE_new k hk)
set_option maxRecDepth 100000 in
set_option maxHeartbeats 400000 in
theorem functionWords_any (w : World) : Calls Tryz.prog 70 #[] w fun e w' => ∃ b, e = .returned (.map (some b)) ∧ MapIs w' b kS (fwE 20) ∧ Below w.heap.size w w' := by
  have hmm := @run_makeMap Tryz.prog
  go_enter Tryz.func70, Tryz.ntmps70
  go_wp2_with fail
  go_loopw [7] (fun i wr => ∃ k : Nat, k ≤ 20 ∧ i = .int .i64 k ∧ MapIs wr w.heap.size kS (fwE k) ∧ Below w.heap.size w wr ∧ Blk wr (w.heap.size + 1) 9 fwCells.toArray) (fun i _ => 20 - (intOf i).toNat)
  case atStart => exact ⟨0, by omega, rfl, (MapIs.new w kS).alloc _, ((Below.refl _ _).alloc (Nat.le_refl _) _).alloc (by simp) _, by have h := Blk.new (w.alloc (.map #[] 0)) 9 fwCells.toArray; rw [World.size_alloc] at h; exact h⟩
  case round =>
    obtain ⟨k, hk, rfl, hm, hb, hblk⟩ := hrel
    by_cases hlt : k < 20
    · obtain ⟨w', hup, hm', hg⟩ := fw_update hm hlt
      have hc : wr.cell? ⟨w.heap.size + 1, k, none⟩ = some (kS (fwL.getD k [])) := by rw [hblk.cell k]; simpa using fw_cell k hlt
      generalize fwL.getD k [] = lk at hc hup
      go_wp2_with fail
      go_roundw
      case rel => exact ⟨k + 1, by omega, by go_num, hm', hb.grown hg hb.size (fun j e => by cases e; exact Nat.le_refl _), hblk.grown hg (by simp)⟩
      case measure => simp [intOf]; omega
    · obtain rfl : k = 20 := by omega
      go_wp2_with fail
      go_ret
      exact ⟨_, rfl, hm, hb⟩
set_option maxRecDepth 100000 in
theorem function_any (l : List UInt8) (w : World) : Calls Tryz.prog 35 #[str l] w fun e w' => e = .returned (.bool (isFn l)) ∧ Below w.heap.size w w' := by
  obtain ⟨c, h1, h2⟩ := isFn_assoc l
  have HC := Lib.hid (functionWords_any w)
  have HR := Lib.hid (fun (W : World) (b : Nat) (h : MapIs W b kS (fwE 20)) => h1 ▸ run_lookup_is Tryz.underlying89 Tryz.underlying9 same_str (check_str Tryz.underlying9) h l (zero_int W))
  clear h1
  have H2 := Lib.hid h2; clear h2
  go_enter Tryz.func35, Tryz.ntmps35
  go_wp2_with (go_at_call 70; refine (HC.out).mono ?_; rintro e w' ⟨b, rfl, hm, hb⟩; have hl := (HR.out) w' b hm)
  go_ret
  exact ⟨ret_bool (by rw [← H2.out]), by assumption⟩
end Go.Proofs.YtbbgieopcmjoeaaGreatDoor
