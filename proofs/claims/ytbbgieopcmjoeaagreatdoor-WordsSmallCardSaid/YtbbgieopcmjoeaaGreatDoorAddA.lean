/- package words: adding an entry to a lexicon: where it goes; what is refused at once. -/
import Derived.Test.YtbbgieopcmjoeaaGreatDoorLook
namespace Go.Proofs.YtbbgieopcmjoeaaGreatDoor
open Go.RowKit
/-- Entry o does not stand ahead of e. -/
def geL (e o : Ent) : Bool := decide (0 ≤ cmpL o e)
theorem add1_any (o e : Ent) (B : Nat) (w : World) (hB : B < w.heap.size) (h0 : w.cell? ⟨B, 0, none⟩ = some (str e.1)) (h1 : w.cell? ⟨B, 1, none⟩ = some (byteV e.2.1)) (h2 : w.cell? ⟨B, 2, none⟩ = some (str e.2.2)) :
    Calls Tryz.prog 40 #[entV o, .pointer (some ⟨B, 0, none⟩)] w fun e' w' => e' = .returned (.bool (geL e o)) ∧ Below w.heap.size w w' := by
  obtain ⟨ox, oc, osy⟩ := o
  obtain ⟨ex, ec, esy⟩ := e
  have hb := (Below.refl w.heap.size w).alloc (Nat.le_refl _) (.cells #[str ox, byteV oc, str osy] 24)
  go_enter Tryz.func40, Tryz.ntmps40
  go_wp2_with (go_at_call 41; refine (compare_any (ox, oc, osy) (ex, ec, esy) _).mono ?_; rintro e w' ⟨rfl, hb'⟩)
  go_ret
  exact ⟨rfl, below_then hb hb'⟩
theorem add2_any (o e : Ent) (B : Nat) (w : World) (hB : B < w.heap.size) (h0 : w.cell? ⟨B, 0, none⟩ = some (str e.1)) (h1 : w.cell? ⟨B, 1, none⟩ = some (byteV e.2.1)) (h2 : w.cell? ⟨B, 2, none⟩ = some (str e.2.2)) :
    Calls Tryz.prog 43 #[entV o, .pointer (some ⟨B, 0, none⟩)] w fun e' w' => e' = .returned (.bool (clashL o e)) ∧ Below w.heap.size w w' := by
  obtain ⟨ox, oc, osy⟩ := o
  obtain ⟨ex, ec, esy⟩ := e
  have hb := (Below.refl w.heap.size w).alloc (Nat.le_refl _) (.cells #[str ox, byteV oc, str osy] 24)
  go_enter Tryz.func43, Tryz.ntmps43
  go_wp2_with (go_at_call 44; refine (clash_any (ox, oc, osy) (ex, ec, esy) _).mono ?_; rintro e w' ⟨rfl, hb'⟩)
  go_ret
  exact ⟨rfl, below_then hb hb'⟩
theorem enters_add1 : Enters Tryz.prog 40 := enters_of Tryz.func40 (by kernel_rfl) rfl
theorem enters_add2 : Enters Tryz.prog 43 := enters_of Tryz.func43 (by kernel_rfl) rfl
set_option maxRecDepth 100000 in
theorem find_ent (A : Option Addr) (n c : Nat) (xs : List Value) (g : Nat) (eg : Enters Tryz.prog g) (caps : List Value) (p : Nat → Bool) (w : World) (hm : n ≤ 140737488355328)
    (hr : Reads w w.heap.size 3 A n xs) (hp : Pred g caps (argE xs) n p w) :
    Calls Tryz.prog 39 #[.slice A n c, .func (.func g) #[] caps.toArray] w fun e w' => e = .returned (.int .i64 (firstIdx p n)) ∧ Below w.heap.size w w' := by
  have HI := Lib.hid (indexFunc_ent A n c xs g eg caps p w hm hr hp)
  have hle := firstIdx_le p n
  clear hr hp eg
  by_cases hlt : firstIdx p n < n
  · have HV : Hid (idxV p n = .int .i64 (firstIdx p n)) := by unfold idxV; rw [if_pos hlt]; rfl
    go_enter Tryz.func39, Tryz.ntmps39
    go_wp2_with (go_at_call 72; refine (HI.out).mono ?_; rintro e w' ⟨rfl, hb'⟩; rw [HV.out])
    go_ret
    exact ⟨rfl, hb'⟩
  · have HV : Hid (idxV p n = .int .i64 (-1)) := by unfold idxV; rw [if_neg hlt]; rfl
    have hn : n = firstIdx p n := by omega
    have HN := Lib.hid hn; clear hn
    go_enter Tryz.func39, Tryz.ntmps39
    go_wp2_with (go_at_call 72; refine (HI.out).mono ?_; rintro e w' ⟨rfl, hb'⟩; rw [HV.out])
    go_ret
    exact ⟨ret_int (by rw [← HN.out]), hb'⟩
/-- The place of a new entry. -/
def atL (l : List Ent) (e : Ent) : Nat := firstIdx (fun i => geL e (l.getD i ([], 0, []))) l.length
theorem find_ge (l : List Ent) (e : Ent) (A : Option Addr) (c B : Nat) (w : World) (hm : l.length ≤ 140737488355328) (hr : Reads w w.heap.size 3 A l.length (flat l)) (hB : B < w.heap.size)
    (h0 : w.cell? ⟨B, 0, none⟩ = some (str e.1)) (h1 : w.cell? ⟨B, 1, none⟩ = some (byteV e.2.1)) (h2 : w.cell? ⟨B, 2, none⟩ = some (str e.2.2)) :
    Calls Tryz.prog 39 #[.slice A l.length c, .func (.func 40) #[] #[.pointer (some ⟨B, 0, none⟩)]] w fun e' w' => e' = .returned (.int .i64 (atL l e)) ∧ Below w.heap.size w w' := by
  have hp : Pred 40 [.pointer (some ⟨B, 0, none⟩)] (argE (flat l)) l.length (fun i => geL e (l.getD i ([], 0, []))) w := fun i hi W hb => by
    rw [flat_arg l i hi]
    have hE : l.getD i ([], 0, []) = l[i] := by simp [hi]
    exact (add1_any l[i] e B W (Nat.lt_of_lt_of_le hB hb.size) ((hb.cell (p := ⟨B, 0, none⟩) hB).trans h0) ((hb.cell (p := ⟨B, 1, none⟩) hB).trans h1) ((hb.cell (p := ⟨B, 2, none⟩) hB).trans h2)).mono fun e' w' h => by rw [← hE] at h; exact h
  exact find_ent A l.length c (flat l) 40 enters_add1 [.pointer (some ⟨B, 0, none⟩)] _ w hm hr hp
set_option maxRecDepth 100000 in
set_option maxHeartbeats 1600000 in
theorem add_bad (l : List Ent) (e : Ent) (A : Option Addr) (c : Nat) (w : World) (hl : l.length ≤ 1048576) (hw : ∀ x ∈ l, x.1.length ≤ 1048576) (hc : l.length ≤ c) (hr : Reads w w.heap.size 3 A l.length (flat l)) (hx : e.1.length ≤ 1048576) (hbad : (validL l && rightL e) = false) :
    Calls Tryz.prog 13 #[.slice A l.length c, entV e] w fun e' w' => e' = .returned (.tuple #[.slice none 0 0, .int .i64 2]) ∧ Below w.heap.size w w' := by
  obtain ⟨ex, ec, esy⟩ := e
  have HRD := Lib.hid hr; clear hr
  have HW := Lib.hid hw; clear hw
  have hbox : Hid (∀ W : World, W = w.alloc (.cells #[str ex, byteV ec, str esy] 24) → Blk W w.heap.size 24 #[str ex, byteV ec, str esy] ∧ Below w.heap.size w W) := fun W h => by subst h; exact ⟨Blk.new _ _ _, (Below.refl _ _).alloc (Nat.le_refl _) _⟩
  cases hv : validL l
  · have HV := Lib.hid hv; clear hv hbad
    go_enter Tryz.func13, Tryz.ntmps13
    go_wp2_with fail
    obtain ⟨W1, hW1⟩ : ∃ W1 : World, W1 = w.alloc (.cells #[str ex, byteV ec, str esy] 24) := ⟨_, rfl⟩
    obtain ⟨hbk, hb1⟩ := hbox.out W1 hW1
    rw [← hW1]
    clear hW1
    go_at_call 39; refine (find_ge l (ex, ec, esy) A c w.heap.size W1 (by omega) ((HRD.out).later hb1) hbk.lt (hbk.cell 0) (hbk.cell 1) (hbk.cell 2)).mono ?_; rintro e' w2 ⟨rfl, hb2⟩
    go_wp2_with fail
    go_at_call 17; refine (valid_any l A c _ (fun x h => by have := HW.out x h; omega) hc ((HRD.out).later (below_then hb1 hb2))).mono ?_; rintro e' w3 ⟨rfl, hb3⟩; rw [HV.out]
    go_wp2_with fail
    go_ret2
    exact ⟨rfl, below_then hb1 (below_then hb2 hb3)⟩
  · have hrt : rightL (ex, ec, esy) = false := by rw [hv] at hbad; simpa using hbad
    have HV := Lib.hid hv; have HT := Lib.hid hrt; clear hv hbad hrt
    have hx' : ex.length ≤ 1048576 := hx
    go_enter Tryz.func13, Tryz.ntmps13
    go_wp2_with fail
    obtain ⟨W1, hW1⟩ : ∃ W1 : World, W1 = w.alloc (.cells #[str ex, byteV ec, str esy] 24) := ⟨_, rfl⟩
    obtain ⟨hbk, hb1⟩ := hbox.out W1 hW1
    rw [← hW1]
    clear hW1
    go_at_call 39; refine (find_ge l (ex, ec, esy) A c w.heap.size W1 (by omega) ((HRD.out).later hb1) hbk.lt (hbk.cell 0) (hbk.cell 1) (hbk.cell 2)).mono ?_; rintro e' w2 ⟨rfl, hb2⟩
    have hbk2 := hbk.later hb2
    go_wp2_with fail
    go_at_call 17; refine (valid_any l A c _ (fun x h => by have := HW.out x h; omega) hc ((HRD.out).later (below_then hb1 hb2))).mono ?_; rintro e' w3 ⟨rfl, hb3⟩; rw [HV.out]
    have hbk3 := hbk2.later hb3
    have k0 := hbk3.cell 0
    have k1 := hbk3.cell 1
    have k2 := hbk3.cell 2
    simp only [List.getElem?_toArray, List.getElem?_cons_zero, List.getElem?_cons_succ] at k0 k1 k2
    go_wp2_with fail
    go_at_call 24; refine (right_any ex ec esy _ (by omega)).mono ?_; rintro e' w4 ⟨rfl, hb4⟩; rw [HT.out]
    go_wp2_with fail
    go_ret2
    exact ⟨rfl, below_then hb1 (below_then hb2 (below_then hb3 hb4))⟩
end Go.Proofs.YtbbgieopcmjoeaaGreatDoor
