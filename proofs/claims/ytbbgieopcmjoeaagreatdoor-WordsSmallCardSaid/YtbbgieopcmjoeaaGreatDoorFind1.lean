/- slices.IndexFunc and slices.ContainsFunc over bytes and over strings, at whatever predicate. -/
import Derived.Test.YtbbgieopcmjoeaaGreatDoorBase
import Derived.Shelf.Abstract
namespace Go.Proofs.YtbbgieopcmjoeaaGreatDoor
open Go.RowKit
/-- The function value '.func g' with what it captured answers p at the elements, in every later world, and leaves alone what was there. -/
def Pred (g : Nat) (caps : List Value) (arg : Nat → Value) (n : Nat) (p : Nat → Bool) (w : World) : Prop :=
  ∀ i, i < n → ∀ W, Below w.heap.size w W → Calls Tryz.prog g (arg i :: caps).toArray W fun e w' => e = .returned (.bool (p i)) ∧ Below W.heap.size W w'
theorem Pred.later {g : Nat} {caps : List Value} {arg : Nat → Value} {n : Nat} {p : Nat → Bool} {w w' : World} (h : Pred g caps arg n p w) (hb : Below w.heap.size w w') : Pred g caps arg n p w' :=
  fun i hi W hW => h i hi W (below_then hb hW)
def idxV (p : Nat → Bool) (n : Nat) : Value := .int .i64 (if firstIdx p n < n then (firstIdx p n : Int) else -1)
theorem idxV_hit {p : Nat → Bool} {n k : Nat} (hk : k < n) (hno : ∀ i, i < k → p i = false) (hp : p k = true) : idxV p n = .int .i64 k := by
  have e := firstIdx_eq p n k (by omega) hno (fun _ => hp)
  unfold idxV; rw [e, if_pos hk]
theorem idxV_miss {p : Nat → Bool} {n : Nat} (hno : ∀ i, i < n → p i = false) : idxV p n = .int .i64 (-1) := by
  have e := firstIdx_eq p n n (by omega) hno (fun h => absurd h (by omega))
  unfold idxV; rw [e, if_neg (by omega)]
def NoneTo (p : Nat → Bool) (k : Nat) : Prop := ∀ i, i < k → p i = false
theorem NoneTo.zero (p : Nat → Bool) : NoneTo p 0 := fun i hi => absurd hi (by omega)
theorem NoneTo.succ {p : Nat → Bool} {k : Nat} (h : NoneTo p k) (hp : p k = false) : NoneTo p (k + 1) := fun i hi => by
  rcases Nat.lt_or_eq_of_le (Nat.lt_succ_iff.1 hi) with h1 | rfl
  · exact h i h1
  · exact hp
set_option maxRecDepth 100000 in
set_option maxHeartbeats 400000 in
theorem indexFunc_byte (A : Option Addr) (n c : Nat) (xs : List Value) (g : Nat) (eg : Enters Tryz.prog g) (caps : List Value) (p : Nat → Bool) (w : World) (hm : n ≤ 140737488355328)
    (hr : Reads w w.heap.size 1 A n xs) (hp : Pred g caps (fun i => xs.getD i undef) n p w) :
    Calls Tryz.prog 111 #[.slice A n c, .func (.func g) #[] caps.toArray] w fun e w' => e = .returned (idxV p n) ∧ Below w.heap.size w w' := by
  have HR := Lib.hid hr; clear hr
  have HP := Lib.hid hp; clear hp
  have he := fun args W => eg args W
  clear eg
  go_enter Tryz.func111, Tryz.ntmps111
  go_wp2_with fail
  go_loopw [8] (fun i wr => ∃ k : Nat, k ≤ n ∧ i = .int .i64 k ∧ Below w.heap.size w wr ∧ NoneTo p k) (fun i _ => n - (intOf i).toNat)
  case atStart => exact ⟨0, Nat.zero_le _, rfl, Below.refl _ _, NoneTo.zero p⟩
  case round =>
    obtain ⟨k, hk, rfl, hb, hno⟩ := hrel
    by_cases hlt : k < n
    · obtain ⟨ad, u, rfl, hB, hx, hc⟩ := ((HR.out).below hb).at_ hlt
      have hu : xs.getD k undef = u := by simp [hx]
      have hcall := (HP.out) k hlt wr hb
      simp only [hu] at hcall
      clear hx hu
      cases hpk : p k
      · rw [hpk] at hcall
        have HC := Lib.hid hcall; clear hcall
        have HK := Lib.hid hpk; clear hpk
        go_wp2_with (go_at_fn g; refine (HC.out).mono ?_; rintro e w' ⟨rfl, hb'⟩)
        go_roundw
        case rel => exact ⟨k + 1, by omega, by go_num, below_then hb hb', hno.succ HK.out⟩
        case measure => simp [intOf]; omega
      · rw [hpk] at hcall
        have HC := Lib.hid hcall; clear hcall
        have HK := Lib.hid hpk; clear hpk
        go_wp2_with (go_at_fn g; refine (HC.out).mono ?_; rintro e w' ⟨rfl, hb'⟩)
        go_ret
        exact ⟨by rw [idxV_hit hlt hno HK.out]; rfl, below_then hb hb'⟩
    · go_wp2_with fail
      go_ret
      exact ⟨by rw [idxV_miss (fun i hi => hno i (by omega))]; rfl, hb⟩
set_option maxRecDepth 100000 in
theorem containsFunc_byte (A : Option Addr) (n c : Nat) (xs : List Value) (g : Nat) (eg : Enters Tryz.prog g) (caps : List Value) (p : Nat → Bool) (w : World) (hm : n ≤ 140737488355328)
    (hr : Reads w w.heap.size 1 A n xs) (hp : Pred g caps (fun i => xs.getD i undef) n p w) :
    Calls Tryz.prog 77 #[.slice A n c, .func (.func g) #[] caps.toArray] w fun e w' => e = .returned (.bool (anyIdx p n)) ∧ Below w.heap.size w w' := by
  have HI := Lib.hid (indexFunc_byte A n c xs g eg caps p w hm hr hp)
  clear hr hp eg
  by_cases hlt : firstIdx p n < n
  · have HV : Hid (idxV p n = .int .i64 (firstIdx p n)) := by unfold idxV; rw [if_pos hlt]; rfl
    go_enter Tryz.func77, Tryz.ntmps77
    go_wp2_with (go_at_call 111; refine (HI.out).mono ?_; rintro e w' ⟨rfl, hb'⟩; rw [HV.out])
    go_ret
    exact ⟨ret_bool (by simp [anyIdx, hlt]), hb'⟩
  · have HV : Hid (idxV p n = .int .i64 (-1)) := by unfold idxV; rw [if_neg hlt]; rfl
    go_enter Tryz.func77, Tryz.ntmps77
    go_wp2_with (go_at_call 111; refine (HI.out).mono ?_; rintro e w' ⟨rfl, hb'⟩; rw [HV.out])
    go_ret
    exact ⟨ret_bool (by simp [anyIdx, hlt]), hb'⟩
set_option maxRecDepth 100000 in
set_option maxHeartbeats 400000 in
theorem indexFunc_string (A : Option Addr) (n c : Nat) (xs : List Value) (g : Nat) (eg : Enters Tryz.prog g) (caps : List Value) (p : Nat → Bool) (w : World) (hm : n ≤ 140737488355328)
    (hr : Reads w w.heap.size 1 A n xs) (hp : Pred g caps (fun i => xs.getD i undef) n p w) :
    Calls Tryz.prog 117 #[.slice A n c, .func (.func g) #[] caps.toArray] w fun e w' => e = .returned (idxV p n) ∧ Below w.heap.size w w' := by
  have HR := Lib.hid hr; clear hr
  have HP := Lib.hid hp; clear hp
  have he := fun args W => eg args W
  clear eg
  go_enter Tryz.func117, Tryz.ntmps117
  go_wp2_with fail
  go_loopw [8] (fun i wr => ∃ k : Nat, k ≤ n ∧ i = .int .i64 k ∧ Below w.heap.size w wr ∧ NoneTo p k) (fun i _ => n - (intOf i).toNat)
  case atStart => exact ⟨0, Nat.zero_le _, rfl, Below.refl _ _, NoneTo.zero p⟩
  case round =>
    obtain ⟨k, hk, rfl, hb, hno⟩ := hrel
    by_cases hlt : k < n
    · obtain ⟨ad, u, rfl, hB, hx, hc⟩ := ((HR.out).below hb).at_ hlt
      have hu : xs.getD k undef = u := by simp [hx]
      have hcall := (HP.out) k hlt wr hb
      simp only [hu] at hcall
      clear hx hu
      cases hpk : p k
      · rw [hpk] at hcall
        have HC := Lib.hid hcall; clear hcall
        have HK := Lib.hid hpk; clear hpk
        go_wp2_with (go_at_fn g; refine (HC.out).mono ?_; rintro e w' ⟨rfl, hb'⟩)
        go_roundw
        case rel => exact ⟨k + 1, by omega, by go_num, below_then hb hb', hno.succ HK.out⟩
        case measure => simp [intOf]; omega
      · rw [hpk] at hcall
        have HC := Lib.hid hcall; clear hcall
        have HK := Lib.hid hpk; clear hpk
        go_wp2_with (go_at_fn g; refine (HC.out).mono ?_; rintro e w' ⟨rfl, hb'⟩)
        go_ret
        exact ⟨by rw [idxV_hit hlt hno HK.out]; rfl, below_then hb hb'⟩
    · go_wp2_with fail
      go_ret
      exact ⟨by rw [idxV_miss (fun i hi => hno i (by omega))]; rfl, hb⟩
set_option maxRecDepth 100000 in
theorem containsFunc_string (A : Option Addr) (n c : Nat) (xs : List Value) (g : Nat) (eg : Enters Tryz.prog g) (caps : List Value) (p : Nat → Bool) (w : World) (hm : n ≤ 140737488355328)
    (hr : Reads w w.heap.size 1 A n xs) (hp : Pred g caps (fun i => xs.getD i undef) n p w) :
    Calls Tryz.prog 91 #[.slice A n c, .func (.func g) #[] caps.toArray] w fun e w' => e = .returned (.bool (anyIdx p n)) ∧ Below w.heap.size w w' := by
  have HI := Lib.hid (indexFunc_string A n c xs g eg caps p w hm hr hp)
  clear hr hp eg
  by_cases hlt : firstIdx p n < n
  · have HV : Hid (idxV p n = .int .i64 (firstIdx p n)) := by unfold idxV; rw [if_pos hlt]; rfl
    go_enter Tryz.func91, Tryz.ntmps91
    go_wp2_with (go_at_call 117; refine (HI.out).mono ?_; rintro e w' ⟨rfl, hb'⟩; rw [HV.out])
    go_ret
    exact ⟨ret_bool (by simp [anyIdx, hlt]), hb'⟩
  · have HV : Hid (idxV p n = .int .i64 (-1)) := by unfold idxV; rw [if_neg hlt]; rfl
    go_enter Tryz.func91, Tryz.ntmps91
    go_wp2_with (go_at_call 117; refine (HI.out).mono ?_; rintro e w' ⟨rfl, hb'⟩; rw [HV.out])
    go_ret
    exact ⟨ret_bool (by simp [anyIdx, hlt]), hb'⟩
end Go.Proofs.YtbbgieopcmjoeaaGreatDoor
