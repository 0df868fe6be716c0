/- package lyceumref02: Predicate. -/
import Derived.Test.YtbbgieopcmjoeaaGreatDoorRefD
namespace Go.Proofs.YtbbgieopcmjoeaaGreatDoor
open Go.RowKit
theorem cap_not_word (b : UInt8) (r : List UInt8) (h : capB b.toNat = true) : wordsL.contains (b :: r) = false := by
  have : ∀ n : Nat, n < 256 → 97 ≤ n → b ≠ UInt8.ofNat n := fun n hn h97 e => by
    subst e
    unfold capB at h
    simp [Nat.mod_eq_of_lt hn] at h
    omega
  simp only [wordsL, List.contains_cons, List.contains_nil, Bool.or_false, Bool.or_eq_false_iff, beq_eq_false_iff_ne, ne_eq, List.cons.injEq, not_and]
  refine ⟨fun e => absurd e (this 97 (by omega) (by omega)), fun e => absurd e (this 115 (by omega) (by omega)), fun e => absurd e (this 102 (by omega) (by omega)), fun e => absurd e (this 110 (by omega) (by omega)), fun e => absurd e (this 97 (by omega) (by omega)), fun e => absurd e (this 117 (by omega) (by omega))⟩
set_option maxRecDepth 100000 in
theorem rpredicate_any (l : List UInt8) (w : World) (hm : l.length ≤ 140737488355328) : Calls Tryz.prog 60 #[str l] w fun e w' => e = .returned (.bool (nameL capB nlB l)) ∧ w = w' := by
  cases l with
  | nil =>
    go_enter Tryz.func60, Tryz.ntmps60
    go_wp2_with (go_at_call 87; refine (rletters_any _ _ hm).mono ?_; rintro e w' ⟨rfl, rfl⟩)
    all_goals go_ret
    all_goals exact ⟨rfl, rfl⟩
  | cons b r =>
    have HQ : Hid (nameL capB nlB (b :: r) = (lettersL (b :: r) && (decide (65 ≤ (b.toNat : Int)) && decide ((b.toNat : Int) ≤ 90)))) := Lib.hid (show nameL capB nlB (b :: r) = _ by
      unfold nameL lettersL
      have hcc : capB b.toNat = (decide (65 ≤ (b.toNat : Int)) && decide ((b.toNat : Int) ≤ 90)) := rfl
      rw [← hcc]
      cases hc : capB b.toNat
      · simp [hc]
      · have := cap_not_word b r hc
        simp only [this]
        simp [hc, Nat.lt_iff_add_one_le])
    have hg : ∀ h, (ByteArray.mk (b :: r).toArray)[0]'h = b := fun h => rfl
    cases hs : lettersL (b :: r)
    · have HS := Lib.hid hs; clear hs
      go_enter Tryz.func60, Tryz.ntmps60
      go_wp2_with (go_at_call 87; refine (rletters_any _ _ hm).mono ?_; rintro e w' ⟨rfl, rfl⟩; rw [HS.out])
      go_ret
      exact ⟨ret_bool (by rw [HQ.out, HS.out]; rfl), rfl⟩
    · have HS := Lib.hid hs; clear hs
      go_enter Tryz.func60, Tryz.ntmps60
      go_wp2_with (first | (go_at_call 87; refine (rletters_any _ _ hm).mono ?_; rintro e w' ⟨rfl, rfl⟩; rw [HS.out]) | (go_at_call 88; refine (rin_any _ _ _ _).mono ?_; rintro e w' ⟨rfl, rfl⟩))
      go_ret
      exact ⟨ret_bool (by rw [HQ.out, HS.out]; rfl), rfl⟩
def words5L : List (List UInt8) := [[97, 108, 108], [115, 111, 109, 101], [102, 97, 108, 115, 101], [110, 101, 120, 116], [97, 108, 119, 97, 121, 115]]
theorem fn_cons (b : UInt8) (r : List UInt8) : nameL fnB nlB (b :: r) = (!words5L.contains (b :: r) && (lettersL (b :: r) && (decide (97 ≤ (b.toNat : Int)) && decide ((b.toNat : Int) ≤ 116)))) := by
  have hcc : fnB b.toNat = (decide (97 ≤ (b.toNat : Int)) && decide ((b.toNat : Int) ≤ 116)) := rfl
  rw [← hcc]
  have hu : wordsL.contains (b :: r) = (words5L.contains (b :: r) || ((b :: r) == [117, 110, 116, 105, 108])) := by
    simp only [wordsL, words5L, List.contains_cons, List.contains_nil, Bool.or_false, Bool.or_assoc]
  unfold nameL lettersL
  simp only [hu]
  cases hc : fnB b.toNat
  · simp
  · have hx : ((b :: r) == [117, 110, 116, 105, 108]) = false := by
      cases he : ((b :: r) == [117, 110, 116, 105, 108])
      · rfl
      · have he := beq_iff_eq.1 he
        have hb : b = 117 := (List.cons.inj he).1
        subst hb
        exact absurd hc (by decide)
    rw [hx]
    cases words5L.contains (b :: r) <;> simp [Nat.lt_iff_add_one_le]
set_option maxRecDepth 100000 in
theorem rfunction02_any (l : List UInt8) (w : World) (hm : l.length ≤ 140737488355328) : Calls Tryz.prog 58 #[str l] w fun e w' => e = .returned (.bool (nameL fnB nlB l)) ∧ w = w' := by
  cases l with
  | nil =>
    go_enter Tryz.func58, Tryz.ntmps58
    go_wp2_with (go_at_call 87; refine (rletters_any _ _ hm).mono ?_; rintro e w' ⟨rfl, rfl⟩)
    all_goals go_ret
    all_goals exact ⟨rfl, rfl⟩
  | cons b r =>
    have HQ := Lib.hid (fn_cons b r)
    have hg : ∀ h, (ByteArray.mk (b :: r).toArray)[0]'h = b := fun h => rfl
    have h0 : 0 < (b :: r).length := by simp
    generalize b :: r = l at *
    cases hs : lettersL l
    all_goals
      have HS := Lib.hid hs; clear hs
      go_enter Tryz.func58, Tryz.ntmps58
      go_wp2_with (first | (go_at_call 87; refine (rletters_any _ _ hm).mono ?_; rintro e w' ⟨rfl, rfl⟩; rw [HS.out]) | (go_at_call 88; refine (rin_any _ _ _ _).mono ?_; rintro e w' ⟨rfl, rfl⟩))
      all_goals go_ret
      all_goals exact ⟨ret_bool (by rw [HQ.out, HS.out]; simp_all [words5L]), rfl⟩
end Go.Proofs.YtbbgieopcmjoeaaGreatDoor
