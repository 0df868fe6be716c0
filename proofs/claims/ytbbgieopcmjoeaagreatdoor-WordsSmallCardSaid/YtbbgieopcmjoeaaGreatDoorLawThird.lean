/- WordsThird: the law's walk, and what it asks of third forms. -/
import Derived.Test.YtbbgieopcmjoeaaGreatDoorAwake
namespace Go.Proofs.YtbbgieopcmjoeaaGreatDoor
open Go.RowKit
theorem thirdL_cases (l : List UInt8) : thirdL l = l ++ [101, 115] ∨ (thirdL l = l.take (l.length - 1) ++ [105, 101, 115] ∧ l.getD (l.length - 1) 0 = 121 ∧ 0 < l.length) ∨ thirdL l = l ++ [115] := by
  unfold thirdL
  split
  · exact .inl rfl
  · split
    · exact .inl rfl
    · split
      · rename_i h
        refine .inr (.inl ⟨rfl, ?_, ?_⟩)
        · unfold lastIs at h
          simp only [Bool.and_eq_true, beq_iff_eq] at h
          exact h.2.2
        · unfold lastIs at h
          simp only [Bool.and_eq_true, decide_eq_true_eq] at h
          omega
      · exact .inr (.inr rfl)
theorem third_suffix (l : List UInt8) : Lib.hasSuffix (thirdL l) [115] = true := by
  unfold Lib.hasSuffix
  rw [List.isSuffixOf_iff_suffix]
  rcases thirdL_cases l with h | ⟨h, -, -⟩ | h
  · exact ⟨l ++ [101], by rw [h]; simp⟩
  · exact ⟨l.take (l.length - 1) ++ [105, 101], by rw [h]; simp⟩
  · exact ⟨l, h.symm⟩
theorem third_prefix1 (l : List UInt8) : Lib.hasPrefix (thirdL l) (l.take (l.length - 1)) = true := by
  unfold Lib.hasPrefix
  rw [List.isPrefixOf_iff_prefix]
  have ht : l.take (l.length - 1) <+: l := List.take_prefix _ _
  rcases thirdL_cases l with h | ⟨h, -, -⟩ | h
  · rw [h]; exact ht.trans (List.prefix_append _ _)
  · rw [h]; exact List.prefix_append _ _
  · rw [h]; exact ht.trans (List.prefix_append _ _)
theorem third_prefix (l : List UInt8) (hp : Lib.hasPrefix (thirdL l) l = false) : l.getD (l.length - 1) 0 = 121 := by
  have hno : ∀ m, thirdL l = l ++ m → False := fun m h => by
    have : Lib.hasPrefix (thirdL l) l = true := List.isPrefixOf_iff_prefix.2 (by rw [h]; exact List.prefix_append _ _)
    rw [this] at hp; cases hp
  rcases thirdL_cases l with h | ⟨-, h, -⟩ | h
  · exact (hno _ h).elim
  · exact h
  · exact (hno _ h).elim
theorem third_len (l : List UInt8) : l.length + 1 ≤ (thirdL l).length ∧ (thirdL l).length ≤ l.length + 2 := by
  rcases thirdL_cases l with h | ⟨h, -, h0⟩ | h
  · rw [h]; simp
  · rw [h]; simp; omega
  · rw [h]; simp
def sib2 (x y : UInt8) : Bool := y == 115 || y == 120 || y == 122 || (x == 99 && y == 104) || (x == 115 && y == 104)
def end2 (x y : UInt8) : List UInt8 := if sib2 x y then [y, 101, 115] else if !vowU x && y == 111 then [y, 101, 115] else if !vowU x && y == 121 then [105, 101, 115] else [y, 115]
theorem suffix1 (a : List UInt8) (x y b : UInt8) : Lib.hasSuffix (a ++ [x, y]) [b] = (y == b) := by
  rw [Bool.eq_iff_iff, beq_iff_eq]
  unfold Lib.hasSuffix
  rw [List.isSuffixOf_iff_suffix, ← List.reverse_prefix]
  simp [List.cons_prefix_cons, eq_comm]
theorem suffix2 (a : List UInt8) (x y b c : UInt8) : Lib.hasSuffix (a ++ [x, y]) [b, c] = (x == b && y == c) := by
  rw [Bool.eq_iff_iff, Bool.and_eq_true, beq_iff_eq, beq_iff_eq]
  unfold Lib.hasSuffix
  rw [List.isSuffixOf_iff_suffix, ← List.reverse_prefix]
  simp [List.cons_prefix_cons, eq_comm, and_comm]
theorem sibL_two (a : List UInt8) (x y : UInt8) : sibL (a ++ [x, y]) = sib2 x y := by
  simp [sibL, sibE, suffix1, suffix2, sib2, Bool.or_assoc]
theorem two_at (a : List UInt8) (x y : UInt8) : (a ++ [x, y]).getD ((a ++ [x, y]).length - 1) 0 = y ∧ (a ++ [x, y]).getD ((a ++ [x, y]).length - 2) 0 = x ∧ (a ++ [x, y]).length = a.length + 2 := by
  simp [List.getD_eq_getElem?_getD]
theorem thirdL_two (a : List UInt8) (x y : UInt8) : thirdL (a ++ [x, y]) = a ++ [x] ++ end2 x y := by
  obtain ⟨h1, h2, h3⟩ := two_at a x y
  have ht : (a ++ [x, y]).take (a.length + 1) = a ++ [x] := by
    rw [show a ++ [x, y] = (a ++ [x]) ++ [y] by simp, List.take_left' (by simp)]
  unfold thirdL lastIs
  rw [sibL_two, h1, h2, h3]
  have hd : decide (1 < a.length + 2) = true := by simp
  rw [hd]
  unfold end2
  simp only [Bool.true_and, show a.length + 2 - 1 = a.length + 1 from rfl, ht]
  split
  · simp
  · split
    · simp
    · split <;> simp
theorem third_same (s t : List UInt8) (hs : 2 ≤ s.length) (ht : 2 ≤ t.length) (h : s.drop (s.length - 2) = t.drop (t.length - 2)) : (thirdL s).drop (s.length - 1) = (thirdL t).drop (t.length - 1) := by
  have key : ∀ l : List UInt8, 2 ≤ l.length → ∃ a x y, l = a ++ [x, y] ∧ l.drop (l.length - 2) = [x, y] := fun l hl => by
    have h1 : (l.drop (l.length - 2)).length = 2 := by simp; omega
    match hd : l.drop (l.length - 2), h1 with
    | [x, y], _ => exact ⟨l.take (l.length - 2), x, y, by rw [← hd, List.take_append_drop], rfl⟩
  obtain ⟨a, x, y, rfl, h1⟩ := key s hs
  obtain ⟨b, x', y', rfl, h2⟩ := key t ht
  rw [h1, h2] at h
  obtain ⟨rfl, rfl⟩ : x = x' ∧ y = y' := by simpa using h
  rw [thirdL_two, thirdL_two, (two_at a x y).2.2, (two_at b x y).2.2]
  rw [List.drop_left' (by simp), List.drop_left' (by simp)]
theorem third_two_of (s t : List UInt8) (hs : 2 ≤ s.length) (ht : 2 ≤ t.length) (h : (s.drop (s.length - 2) == t.drop (t.length - 2)) = true) : ((thirdL s).drop (s.length - 1) == (thirdL t).drop (t.length - 1)) = true := by
  rw [beq_iff_eq] at h ⊢
  exact third_same s t hs ht h
theorem ext_front (l : List UInt8) (n : Nat) : (ByteArray.mk l.toArray).extract 0 n = ⟨(l.take n).toArray⟩ := by rw [ByteArray.extract_mk]; simp
theorem ext_back (l : List UInt8) (n : Nat) : (ByteArray.mk l.toArray).extract n l.length = ⟨(l.drop n).toArray⟩ := by
  rw [ByteArray.extract_mk]
  congr 1
  apply Array.ext'
  simp [List.take_of_length_le]
end Go.Proofs.YtbbgieopcmjoeaaGreatDoor
