/- package lyceumref33: letters, function words, plain words, third forms, articles. -/
import Derived.Test.YtbbgieopcmjoeaaGreatDoorThird
namespace Go.Proofs.YtbbgieopcmjoeaaGreatDoor
open Go.RowKit
theorem rsmall_any (b : Int) (w : World) : Calls Tryz.prog 85 #[.int .u8 b] w fun e w' => e = .returned (.bool (smallB b)) ∧ w = w' := by
  go_enter Tryz.func85, Tryz.ntmps85
  go_wp2_with fail
  all_goals (try go_ret)
  all_goals exact ⟨by simp_all [smallB] <;> omega, rfl⟩
theorem rcapital_any (b : Int) (w : World) : Calls Tryz.prog 86 #[.int .u8 b] w fun e w' => e = .returned (.bool (capB b)) ∧ w = w' := by
  go_enter Tryz.func86, Tryz.ntmps86
  go_wp2_with fail
  all_goals (try go_ret)
  all_goals exact ⟨by simp_all [capB] <;> omega, rfl⟩
def vowB (b : Int) : Bool := b == 97 || b == 101 || b == 105 || b == 111 || b == 117
theorem rvowel_any (b : Int) (w : World) : Calls Tryz.prog 71 #[.int .u8 b] w fun e w' => e = .returned (.bool (vowB b)) ∧ w = w' := by
  go_enter Tryz.func71, Tryz.ntmps71
  go_wp2_with fail
  all_goals go_ret
  all_goals exact ⟨by simp_all [vowB], rfl⟩
theorem rletter_any (b : Int) (w : World) : Calls Tryz.prog 68 #[.int .u8 b] w fun e w' => e = .returned (.bool (letB b)) ∧ w = w' := by
  cases hs : smallB b
  all_goals
    have HS := Lib.hid hs; clear hs
    go_enter Tryz.func68, Tryz.ntmps68
    go_wp2_with (first | (go_at_call 85; refine (rsmall_any _ _).mono ?_; rintro e w' ⟨rfl, rfl⟩; rw [HS.out]) | (go_at_call 86; refine (rcapital_any _ _).mono ?_; rintro e w' ⟨rfl, rfl⟩))
    go_ret
    exact ⟨ret_bool (by unfold letB; rw [HS.out]; rfl), rfl⟩
theorem vowB_U (b : UInt8) : vowB b.toNat = vowU b := by
  have h : ∀ n : Fin 256, vowB (UInt8.ofNat n.val).toNat = vowU (UInt8.ofNat n.val) := by decide +kernel
  have := h ⟨b.toNat, b.toNat_lt⟩
  simpa only [UInt8.ofNat_toNat] using this
set_option maxRecDepth 100000 in
set_option maxHeartbeats 1600000 in
theorem rfunction_any (l : List UInt8) (w : World) : Calls Tryz.prog 36 #[str l] w fun e w' => e = .returned (.bool (isFn l)) ∧ w = w' := by
  go_enter Tryz.func36, Tryz.ntmps36
  go_wp2_with fail
  all_goals go_ret
  all_goals exact ⟨ret_bool (by simp_all [isFn, fwL]), rfl⟩
theorem rarticle_any (l : List UInt8) (w : World) : Calls Tryz.prog 37 #[str l] w fun e w' => e = .returned (str (artL l)) ∧ w = w' := by
  cases l with
  | nil =>
    go_enter Tryz.func37, Tryz.ntmps37
    go_wp2_with fail
    go_ret
    exact ⟨rfl, rfl⟩
  | cons b r =>
    have hg : ∀ h, (ByteArray.mk (b :: r).toArray)[0]'h = b := fun h => rfl
    cases hv : vowU b
    all_goals
      have hv2 := vowB_U b
      rw [hv] at hv2
      have HV := Lib.hid hv2
      have HU := Lib.hid hv; clear hv hv2
      go_enter Tryz.func37, Tryz.ntmps37
      go_wp2_with (go_at_call 71; refine (rvowel_any _ _).mono ?_; rintro e w' ⟨rfl, rfl⟩; rw [HV.out])
      go_ret
      exact ⟨ret_string (by simp only [artL]; rw [HU.out]; rfl), rfl⟩
set_option maxRecDepth 100000 in
theorem rplain_any (l : List UInt8) (w : World) (hm : l.length ≤ 140737488355328) : Calls Tryz.prog 59 #[str l] w fun e w' => e = .returned (.bool (plainL l)) ∧ w = w' := by
  go_enter Tryz.func59, Tryz.ntmps59
  go_wp2_with fail
  go_loop [3] (fun i => ∃ k : Nat, k ≤ l.length ∧ i = .int .i64 k ∧ NoneTo (atB (fun b => !smallU b) l) k) (fun i => l.length - (intOf i).toNat)
  case atStart => exact ⟨0, Nat.zero_le _, rfl, NoneTo.zero _⟩
  case round =>
    obtain ⟨k, hk, rfl, hno⟩ := hrel
    by_cases hlt : k < l.length
    · have hx : atB (fun b => !smallU b) l k = !smallU l[k] := by simp [atB, hlt]
      have hg : l[k] = l.getD k 0 := by simp [hlt]
      rw [hg] at hx
      clear hg
      cases hs : smallB (l.getD k 0).toNat
      · have HX : Hid (atB (fun b => !smallU b) l k = true) := by rw [hx]; unfold smallU; rw [hs]; rfl
        have HS := Lib.hid hs; clear hs hx
        go_wp2_with (go_at_call 85; refine (rsmall_any _ _).mono ?_; rintro e w' ⟨rfl, rfl⟩; rw [ba_get, HS.out])
        go_ret
        exact ⟨ret_bool (by
          have : l.all smallU = false := by
            rw [← any_not, ← any_atB, Bool.not_eq_false', anyIdx_iff]
            exact ⟨k, hlt, HX.out⟩
          unfold plainL; rw [this]; simp), rfl⟩
      · have HX : Hid (atB (fun b => !smallU b) l k = false) := by rw [hx]; unfold smallU; rw [hs]; rfl
        have HS := Lib.hid hs; clear hs hx
        go_wp2_with (go_at_call 85; refine (rsmall_any _ _).mono ?_; rintro e w' ⟨rfl, rfl⟩; rw [ba_get, HS.out])
        go_round
        case rel => exact ⟨k + 1, by omega, by go_num, hno.succ HX.out⟩
        case measure => simp [intOf]; omega
    · obtain rfl : k = l.length := by omega
      have HA : Hid (l.all smallU = true) := by
        rw [← any_not, ← any_atB]
        have : anyIdx (atB (fun b => !smallU b) l) l.length = false := by
          rw [Bool.eq_false_iff, ne_eq, anyIdx_iff]
          rintro ⟨i, hi, hp⟩
          rw [hno i hi] at hp; cases hp
        rw [this]; rfl
      cases h1 : decide ((1 : Int) ≤ (l.length : Int)) <;> cases h2 : decide ((l.length : Int) ≤ 16)
      all_goals
        have h1' : decide (0 < l.length) = _ := (decide_eq_decide.2 (by omega : 0 < l.length ↔ (1 : Int) ≤ (l.length : Int))).trans h1
        have h2' : decide (l.length ≤ 16) = _ := (decide_eq_decide.2 (by omega : l.length ≤ 16 ↔ (l.length : Int) ≤ 16)).trans h2
        have H1 := Lib.hid h1'; have H2 := Lib.hid h2'; clear h1' h2'
        go_wp2_with fail
        go_ret
        exact ⟨ret_bool (by unfold plainL; rw [HA.out, H1.out, H2.out]; rfl), rfl⟩
end Go.Proofs.YtbbgieopcmjoeaaGreatDoor
