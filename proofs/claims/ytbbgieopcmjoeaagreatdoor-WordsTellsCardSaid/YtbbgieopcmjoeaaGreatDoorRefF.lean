/- package lyceumref33: Right. -/
import Derived.Test.YtbbgieopcmjoeaaGreatDoorRefE
namespace Go.Proofs.YtbbgieopcmjoeaaGreatDoor
open Go.RowKit
theorem right_few {x s : List UInt8} {c : UInt8} (h : c = 1 ∨ c = 2 ∨ c = 4 ∨ c = 5) : rightL (x, c, s) = (plainL x && (!isFn x && nameL capB nlB s)) := by
  rcases h with rfl | rfl | rfl | rfl <;> rfl
theorem right_none {x s : List UInt8} {c : UInt8} (h3 : c ≠ 3) (h : ¬ (c = 1 ∨ c = 2 ∨ c = 4 ∨ c = 5)) : rightL (x, c, s) = false := by
  unfold rightL
  rw [if_neg h3]
  have h1 : c ≠ 1 := fun e => h (.inl e)
  have h2 : c ≠ 2 := fun e => h (.inr (.inl e))
  have h4 : c ≠ 4 := fun e => h (.inr (.inr (.inl e)))
  have h5 : c ≠ 5 := fun e => h (.inr (.inr (.inr e)))
  rw [ne_eq, ← UInt8.toNat_inj] at h1 h2 h3 h4 h5
  simp only [UInt8.reduceToNat] at h1 h2 h3 h4 h5
  have : decide (1 ≤ c) = false ∨ decide (c ≤ 5) = false := by
    rcases Nat.eq_zero_or_pos c.toNat with h0 | h0
    · left; rw [decide_eq_false_iff_not, UInt8.le_iff_toNat_le]; simp; omega
    · right; rw [decide_eq_false_iff_not, UInt8.le_iff_toNat_le]; simp; omega
  rcases this with h | h <;> simp [h]
set_option maxRecDepth 100000 in
set_option maxHeartbeats 800000 in
theorem rright_any (x : List UInt8) (c : UInt8) (s : List UInt8) (w : World) (hm : x.length ≤ 140737488355328) (hs : s.length ≤ 140737488355328) :
    Calls Tryz.prog 25 #[.agg #[str x, byteV c, str s]] w fun e w' => e = .returned (.bool (rightL (x, c, s))) ∧ Below w.heap.size w w' := by
  have hB := (Below.refl w.heap.size w).alloc (Nat.le_refl _) (.cells #[str x, byteV c, str s] 46)
  by_cases h3 : c = 3
  · subst h3
    cases hp : properL x
    all_goals
      have HP := Lib.hid hp; clear hp
      go_enter Tryz.func25, Tryz.ntmps25
      go_wp2_with (first
        | (go_at_call 57; refine (rproper_any _ _ hm).mono ?_; rintro e w1 ⟨rfl, rfl⟩; rw [HP.out])
        | (go_at_call 58; refine (rfunction02_any _ _ hs).mono ?_; rintro e w2 ⟨rfl, rfl⟩))
      go_ret
      exact ⟨ret_bool (by simp [rightL, HP.out]), hB⟩
  · by_cases h15 : c = 1 ∨ c = 2 ∨ c = 4 ∨ c = 5
    · have H15 := Lib.hid (right_few (x := x) (s := s) h15)
      cases hp : plainL x <;> cases hi : isFn x
      all_goals
        have HP := Lib.hid hp; clear hp
        have HI := Lib.hid hi; clear hi
        clear h3
        rcases h15 with rfl | rfl | rfl | rfl
        all_goals
          go_enter Tryz.func25, Tryz.ntmps25
          go_wp2_with (first
            | (go_at_call 59; refine (rplain_any _ _ hm).mono ?_; rintro e w1 ⟨rfl, rfl⟩; rw [HP.out])
            | (go_at_call 36; refine (rfunction_any _ _).mono ?_; rintro e w2 ⟨rfl, rfl⟩; rw [HI.out])
            | (go_at_call 60; refine (rpredicate_any _ _ hs).mono ?_; rintro e w3 ⟨rfl, rfl⟩))
          go_ret
          exact ⟨ret_bool (by rw [H15.out, HP.out, HI.out]; rfl), hB⟩
    · have HN := Lib.hid (right_none (x := x) (s := s) h3 h15)
      have hne : ∀ n : Nat, n < 256 → c ≠ UInt8.ofNat n → ((c.toNat : Int) == (n : Int)) = false := fun n hn h => by
        cases hq : ((c.toNat : Int) == (n : Int))
        · rfl
        · exact absurd ((u8_eq c n hn).1 hq) h
      have c3 : (((c.toNat : Int)) == 3) = false := hne 3 (by omega) h3
      have c1 : (((c.toNat : Int)) == 1) = false := hne 1 (by omega) fun e => h15 (.inl e)
      have c2 : (((c.toNat : Int)) == 2) = false := hne 2 (by omega) fun e => h15 (.inr (.inl e))
      have c4 : (((c.toNat : Int)) == 4) = false := hne 4 (by omega) fun e => h15 (.inr (.inr (.inl e)))
      have c5 : (((c.toNat : Int)) == 5) = false := hne 5 (by omega) fun e => h15 (.inr (.inr (.inr e)))
      clear h3 h15 hne
      go_enter Tryz.func25, Tryz.ntmps25
      go_wp2_with fail
      go_ret
      exact ⟨ret_bool HN.out.symm, hB⟩
end Go.Proofs.YtbbgieopcmjoeaaGreatDoor
