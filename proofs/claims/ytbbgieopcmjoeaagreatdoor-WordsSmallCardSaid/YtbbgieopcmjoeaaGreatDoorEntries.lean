/- package words: entries and lexicons. -/
import Derived.Test.YtbbgieopcmjoeaaGreatDoorNames
import Derived.Test.YtbbgieopcmjoeaaGreatDoorFnWords
namespace Go.Proofs.YtbbgieopcmjoeaaGreatDoor
open Go.RowKit
/-- An entry: its word, its kind, its symbol. -/
abbrev Ent := List UInt8 × UInt8 × List UInt8
abbrev entV (e : Ent) : Value := .agg #[str e.1, byteV e.2.1, str e.2.2]
abbrev entCells (e : Ent) : List Value := [str e.1, byteV e.2.1, str e.2.2]
def rightL (e : Ent) : Bool :=
  if e.2.1 = 3 then properL e.1 && nameL fnB nlB e.2.2
  else decide (1 ≤ e.2.1) && (decide (e.2.1 ≤ 5) && (plainL e.1 && (!isFn e.1 && nameL capB nlB e.2.2)))
theorem u8_eq (b : UInt8) (n : Nat) (hn : n < 256) : (((b.toNat : Int) == (n : Int)) = true) ↔ b = UInt8.ofNat n := by
  rw [beq_iff_eq, ← UInt8.toNat_inj]
  simp [Nat.mod_eq_of_lt hn]
  omega
set_option maxRecDepth 100000 in
set_option maxHeartbeats 800000 in
theorem right_any (x : List UInt8) (c : UInt8) (s : List UInt8) (w : World) (hm : x.length ≤ 140737488355328) :
    Calls Tryz.prog 24 #[.agg #[str x, byteV c, str s]] w fun e w' => e = .returned (.bool (rightL (x, c, s))) ∧ Below w.heap.size w w' := by
  have hB := (Below.refl w.heap.size w).alloc (Nat.le_refl _) (.cells #[str x, byteV c, str s] 24)
  by_cases h3 : c = 3
  · subst h3
    cases hp : properL x
    all_goals
      have HP := Lib.hid hp; clear hp
      go_enter Tryz.func24, Tryz.ntmps24
      go_wp2_with (first
        | (go_at_call 53; refine (proper_any _ _ hm).mono ?_; rintro e w1 ⟨rfl, hb1⟩; rw [HP.out]; obtain ⟨hc1, hf1⟩ := bcell hb1)
        | (go_at_call 54; refine (sfunction_any _ _).mono ?_; rintro e w2 ⟨rfl, hb2⟩))
      go_ret
      first
        | exact ⟨ret_bool (by simp [rightL, HP.out]), below_then (below_then hB hb1) hb2⟩
        | exact ⟨ret_bool (by simp [rightL, HP.out]), below_then hB hb1⟩
  · have hc3 : (((c.toNat : Int)) == 3) = false := by
      have := u8_eq c 3 (by omega)
      cases h : (((c.toNat : Int)) == 3)
      · rfl
      · exact absurd (this.1 h) h3
    rcases Nat.lt_or_ge c.toNat 1 with h1 | h1
    · go_enter Tryz.func24, Tryz.ntmps24
      go_wp2_with fail
      go_ret
      exact ⟨ret_bool (by simp [rightL, h3, UInt8.le_iff_toNat_le]; omega), hB⟩
    · rcases Nat.lt_or_ge 5 c.toNat with h5 | h5
      · go_enter Tryz.func24, Tryz.ntmps24
        go_wp2_with fail
        go_ret
        exact ⟨ret_bool (by simp [rightL, h3, UInt8.le_iff_toNat_le]; omega), hB⟩
      · have H15 : Hid (1 ≤ c ∧ c ≤ 5) := ⟨by rw [UInt8.le_iff_toNat_le]; exact h1, by rw [UInt8.le_iff_toNat_le]; exact h5⟩
        have H3 := Lib.hid h3; clear h3
        cases hp : plainL x <;> cases hi : isFn x
        all_goals
          have HP := Lib.hid hp; clear hp
          have HI := Lib.hid hi; clear hi
          go_enter Tryz.func24, Tryz.ntmps24
          go_wp2_with (first
            | (go_at_call 55; refine (plain_any _ _ hm).mono ?_; rintro e w1 ⟨rfl, hb1⟩; rw [HP.out]; obtain ⟨hc1, hf1⟩ := bcell hb1; have hz1 : w.heap.size < w1.heap.size := by have := hb1.size; simp at this; omega)
            | (go_at_call 35; refine (function_any _ _).mono ?_; rintro e w2 ⟨rfl, hb2⟩; rw [HI.out]; obtain ⟨hc2, hf2⟩ := bcell hb2)
            | (go_at_call 56; refine (spredicate_any _ _).mono ?_; rintro e w3 ⟨rfl, hb3⟩))
          go_ret
          first
            | exact ⟨ret_bool (by simp [rightL, HP.out, HI.out, H3.out, H15.out]), below_then (below_then (below_then hB hb1) hb2) hb3⟩
            | exact ⟨ret_bool (by simp [rightL, HP.out, HI.out, H3.out]), below_then (below_then hB hb1) hb2⟩
            | exact ⟨ret_bool (by simp [rightL, HP.out, H3.out]), below_then hB hb1⟩
end Go.Proofs.YtbbgieopcmjoeaaGreatDoor
