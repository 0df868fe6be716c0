/- package lyceumref02: letters. -/
import Derived.Test.YtbbgieopcmjoeaaGreatDoorRefC
namespace Go.Proofs.YtbbgieopcmjoeaaGreatDoor
open Go.RowKit
def lettersL (l : List UInt8) : Bool := decide (l.length ≤ 16) && match l with | [] => false | _ :: r => r.all fun x => nlB x.toNat
set_option maxRecDepth 100000 in
theorem rletters_any (l : List UInt8) (w : World) (hm : l.length ≤ 140737488355328) : Calls Tryz.prog 87 #[str l, .bool false] w fun e w' => e = .returned (.bool (lettersL l)) ∧ w = w' := by
  rcases Nat.eq_zero_or_pos l.length with h0 | h0
  · obtain rfl : l = [] := List.length_eq_zero_iff.1 h0
    go_enter Tryz.func87, Tryz.ntmps87
    go_wp2_with fail
    go_loop [5] (fun i => i = .int .i64 1) (fun i => 0)
    case atStart => rfl
    case round =>
      obtain rfl := hrel
      go_wp2_with fail
      go_ret
      exact ⟨rfl, rfl⟩
  · obtain ⟨b, r, rfl⟩ : ∃ b r, l = b :: r := by
      cases l with
      | nil => simp at h0
      | cons b r => exact ⟨b, r, rfl⟩
    have hlen : (b :: r).length = r.length + 1 := rfl
    have hrg : Hid (∀ k, (b :: r).getD (k + 1) 0 = r.getD k 0) := fun k => rfl
    have HP : Hid (lettersL (b :: r) = (decide ((b :: r).length ≤ 16) && r.all fun x => nlB x.toNat)) := rfl
    generalize b :: r = l at *
    go_enter Tryz.func87, Tryz.ntmps87
    go_wp2_with fail
    go_loop [5] (fun i => ∃ k : Nat, k ≤ r.length ∧ i = .int .i64 (k + 1 : Nat) ∧ NoneTo (atB (fun b => !nlB b.toNat) r) k) (fun i => l.length - (intOf i).toNat)
    case atStart => exact ⟨0, Nat.zero_le _, rfl, NoneTo.zero _⟩
    case round =>
      obtain ⟨k, hk, rfl, hno⟩ := hrel
      by_cases hlt : k < r.length
      · have hx : atB (fun b => !nlB b.toNat) r k = !nlB r[k].toNat := by simp [atB, hlt]
        have hg : r[k] = l.getD (k + 1) 0 := by rw [hrg.out]; simp [hlt]
        rw [hg, ← nl_in] at hx
        clear hg
        have HX := Lib.hid hx; clear hx
        generalize hX : ((l.getD (k + 1) 0).toNat : Int) = X at HX
        cases d1 : (decide (48 ≤ X) && decide (X ≤ 57)) <;> cases d2 : (decide (65 ≤ X) && decide (X ≤ 90)) <;> cases d3 : (decide (97 ≤ X) && decide (X ≤ 122))
        all_goals
          rw [d1, d2, d3] at HX
          have D1 := Lib.hid d1; have D2 := Lib.hid d2; have D3 := Lib.hid d3
          clear d1 d2 d3
          go_wp2_with (go_at_call 88; refine (rin_any _ _ _ _).mono ?_; rintro e w' ⟨rfl, rfl⟩; rw [ba_get, hX]; first | rw [D1.out] | rw [D2.out] | rw [D3.out])
          first
          | go_round
            case rel => exact ⟨k + 1, by omega, by go_num, hno.succ HX.out⟩
            case measure => simp [intOf]; omega
          | go_ret
            exact ⟨ret_bool (by
              have : (r.all fun x => nlB x.toNat) = false := by
                rw [← any_not, ← any_atB, Bool.not_eq_false', anyIdx_iff]
                exact ⟨k, hlt, HX.out⟩
              rw [HP.out, this]; simp), rfl⟩
      · obtain rfl : k = r.length := by omega
        have HA : Hid ((r.all fun x => nlB x.toNat) = true) := by
          rw [← any_not, ← any_atB]
          have : anyIdx (atB (fun b => !nlB b.toNat) r) r.length = false := by
            rw [Bool.eq_false_iff, ne_eq, anyIdx_iff]
            rintro ⟨i, hi, hp⟩
            rw [hno i hi] at hp; cases hp
          rw [this]; rfl
        clear hno
        have h0' : (0 : Int) < (l.length : Int) := by omega
        have hq : (((r.length : Int) + 1 < (l.length : Int))) = False := by rw [eq_iff_iff]; constructor <;> intro h <;> first | omega | exact h.elim
        clear hlen
        cases h2 : decide ((l.length : Int) ≤ 16)
        all_goals
          have h2' : decide (l.length ≤ 16) = _ := (decide_eq_decide.2 (by omega : l.length ≤ 16 ↔ (l.length : Int) ≤ 16)).trans h2
          have H2 := Lib.hid h2'; clear h2'
          go_wp2_with fail
          go_ret
          exact ⟨ret_bool (by rw [HP.out, HA.out, H2.out]; rfl), rfl⟩
end Go.Proofs.YtbbgieopcmjoeaaGreatDoor
