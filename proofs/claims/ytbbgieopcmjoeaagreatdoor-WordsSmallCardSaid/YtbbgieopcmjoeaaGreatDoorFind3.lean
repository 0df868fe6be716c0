/- slices.IndexFunc and slices.ContainsFunc over entries. -/
import Derived.Test.YtbbgieopcmjoeaaGreatDoorFind1
import Derived.Test.YtbbgieopcmjoeaaGreatDoorEntries
namespace Go.Proofs.YtbbgieopcmjoeaaGreatDoor
open Go.RowKit
/-- The k-th element of three cells, as a value. -/
def argE (xs : List Value) (k : Nat) : Value := .agg #[xs.getD (k * 3) undef, xs.getD (k * 3 + 1) undef, xs.getD (k * 3 + 2) undef]
theorem addr_add (b off n : Nat) : (⟨b, off, none⟩ : Addr).add n = ⟨b, off + n, none⟩ := by unfold Addr.add; split <;> simp_all
theorem Reads.at3 {w : World} {B n : Nat} {A : Option Addr} {xs : List Value} {k : Nat} (h : Reads w B 3 A n xs) (hk : k < n) : ∃ b off u0 u1 u2, A = some ⟨b, off, none⟩ ∧ b < B ∧ argE xs k = .agg #[u0, u1, u2] ∧
    w.cell? ⟨b, off + k * 3, none⟩ = some u0 ∧ w.cell? ⟨b, off + k * 3 + 1, none⟩ = some u1 ∧ w.cell? ⟨b, off + k * 3 + 2, none⟩ = some u2 := by
  obtain ⟨ad, e, hb, hc⟩ := h.2 (by omega)
  have hl := h.1
  have e0 : k * 3 < xs.length := by omega
  have e1 : k * 3 + 1 < xs.length := by omega
  have e2 : k * 3 + 2 < xs.length := by omega
  have hs : ad.spot = none := by
    have h0 := hc 0 _ (List.getElem?_eq_getElem (by omega))
    exact World.cell?_spot (by simpa [Addr.add] using h0)
  obtain ⟨b, off, spot⟩ := ad
  obtain rfl : spot = none := hs
  refine ⟨b, off, xs[k * 3], xs[k * 3 + 1], xs[k * 3 + 2], e, hb, by simp [argE, e0, e1, e2], ?_, ?_, ?_⟩
  · rw [← addr_add]; exact hc _ _ (List.getElem?_eq_getElem e0)
  · rw [Nat.add_assoc, ← addr_add]; exact hc _ _ (List.getElem?_eq_getElem e1)
  · rw [Nat.add_assoc, ← addr_add]; exact hc _ _ (List.getElem?_eq_getElem e2)
set_option maxRecDepth 100000 in
set_option maxHeartbeats 400000 in
theorem indexFunc_ent (A : Option Addr) (n c : Nat) (xs : List Value) (g : Nat) (eg : Enters Tryz.prog g) (caps : List Value) (p : Nat → Bool) (w : World) (hm : n ≤ 140737488355328)
    (hr : Reads w w.heap.size 3 A n xs) (hp : Pred g caps (argE xs) n p w) :
    Calls Tryz.prog 72 #[.slice A n c, .func (.func g) #[] caps.toArray] w fun e w' => e = .returned (idxV p n) ∧ Below w.heap.size w w' := by
  have HR := Lib.hid hr; clear hr
  have HP := Lib.hid hp; clear hp
  have he := fun args W => eg args W
  clear eg
  go_enter Tryz.func72, Tryz.ntmps72
  go_wp2_with fail
  go_loopw [8] (fun i wr => ∃ k : Nat, k ≤ n ∧ i = .int .i64 k ∧ Below w.heap.size w wr ∧ NoneTo p k) (fun i _ => n - (intOf i).toNat)
  case atStart => exact ⟨0, Nat.zero_le _, rfl, Below.refl _ _, NoneTo.zero p⟩
  case round =>
    obtain ⟨k, hk, rfl, hb, hno⟩ := hrel
    by_cases hlt : k < n
    · obtain ⟨b, off, u0, u1, u2, rfl, hB, hx, hc0, hc1, hc2⟩ := ((HR.out).below hb).at3 hlt
      have hcall := (HP.out) k hlt wr hb
      rw [hx] at hcall
      clear hx
      cases hpk : p k
      · rw [hpk] at hcall
        have HC := Lib.hid hcall; clear hcall
        have HK := Lib.hid hpk; clear hpk
        go_wp2_with (go_at_fn g; refine (HC.out).mono ?_; rintro e w' ⟨rfl, hb'⟩)
        go_roundw
        case rel => exact ⟨k + 1, by omega, by go_num, below_then hb hb', hno.succ HK.out⟩
        case measure => simp [intOf]; omega
      · rw [hpk] at hcall
        have HC := Lib.hid hcall; clear hcall
        have HK := Lib.hid hpk; clear hpk
        go_wp2_with (go_at_fn g; refine (HC.out).mono ?_; rintro e w' ⟨rfl, hb'⟩)
        go_ret
        exact ⟨by rw [idxV_hit hlt hno HK.out]; rfl, below_then hb hb'⟩
    · go_wp2_with fail
      go_ret
      exact ⟨by rw [idxV_miss (fun i hi => hno i (by omega))]; rfl, hb⟩
set_option maxRecDepth 100000 in
theorem containsFunc_ent (A : Option Addr) (n c : Nat) (xs : List Value) (g : Nat) (eg : Enters Tryz.prog g) (caps : List Value) (p : Nat → Bool) (w : World) (hm : n ≤ 140737488355328)
    (hr : Reads w w.heap.size 3 A n xs) (hp : Pred g caps (argE xs) n p w) :
    Calls Tryz.prog 42 #[.slice A n c, .func (.func g) #[] caps.toArray] w fun e w' => e = .returned (.bool (anyIdx p n)) ∧ Below w.heap.size w w' := by
  have HI := Lib.hid (indexFunc_ent A n c xs g eg caps p w hm hr hp)
  clear hr hp eg
  by_cases hlt : firstIdx p n < n
  · have HV : Hid (idxV p n = .int .i64 (firstIdx p n)) := by unfold idxV; rw [if_pos hlt]; rfl
    go_enter Tryz.func42, Tryz.ntmps42
    go_wp2_with (go_at_call 72; refine (HI.out).mono ?_; rintro e w' ⟨rfl, hb'⟩; rw [HV.out])
    go_ret
    exact ⟨ret_bool (by simp [anyIdx, hlt]), hb'⟩
  · have HV : Hid (idxV p n = .int .i64 (-1)) := by unfold idxV; rw [if_neg hlt]; rfl
    go_enter Tryz.func42, Tryz.ntmps42
    go_wp2_with (go_at_call 72; refine (HI.out).mono ?_; rintro e w' ⟨rfl, hb'⟩; rw [HV.out])
    go_ret
    exact ⟨ret_bool (by simp [anyIdx, hlt]), hb'⟩
end Go.Proofs.YtbbgieopcmjoeaaGreatDoor
