/- The pieces of a text, as plain lists: no program in sight. -/
import Derived.Test.YtbbgieopcmjoeaaGreatDoorThird
namespace Go.Proofs.YtbbgieopcmjoeaaGreatDoor
/-- How many bytes the first piece of a text has. -/
def spanLen : List UInt8 → Nat
  | [] => 0
  | b :: r => if letU b then 1 + (r.takeWhile letU).length else 1
theorem spanLen_pos {s : List UInt8} (h : s ≠ []) : 1 ≤ spanLen s := by
  cases s with
  | nil => exact absurd rfl h
  | cons b r => simp only [spanLen]; split <;> omega
theorem takeWhile_length_eq (p : UInt8 → Bool) : ∀ (r : List UInt8) (n : Nat), n ≤ r.length → (∀ i (hi : i < r.length), i < n → p r[i] = true) → (∀ (h : n < r.length), p r[n] = false) → (r.takeWhile p).length = n
  | [], n, hn, _, _ => by simp at hn; simp [hn]
  | b :: r, 0, _, _, h2 => by
    have := h2 (by simp)
    simp at this
    simp [this]
  | b :: r, n + 1, hn, h1, h2 => by
    have h0 := h1 0 (by simp) (by omega)
    simp at h0
    simp only [List.takeWhile_cons, h0, if_true, List.length_cons]
    rw [takeWhile_length_eq p r n (by simpa using hn) (fun i hi hin => by have := h1 (i + 1) (by simpa using hi) (by omega); simpa using this) (fun h => by have := h2 (by simpa using h); simpa using this)]
/-- The end of the loop over the letters: n is the piece's length. -/
theorem spanLen_eq (s : List UInt8) (a n : Nat) (ha : a < s.length) (h1 : 1 ≤ n) (hn : a + n ≤ s.length) (hl : 1 < n → letU (s.getD a 0) = true) (hm : ∀ i, 1 ≤ i → i < n → letU (s.getD (a + i) 0) = true)
    (hx : letU (s.getD a 0) = true → a + n < s.length → letU (s.getD (a + n) 0) = false) : spanLen (s.drop a) = n := by
  rw [List.drop_eq_getElem_cons ha]
  have e0 : s.getD a 0 = s[a] := by simp [ha]
  rw [e0] at hl hx
  simp only [spanLen]
  by_cases hb : letU s[a] = true
  · rw [if_pos hb, takeWhile_length_eq letU (s.drop (a + 1)) (n - 1) (by simp; omega)]
    · omega
    · intro i hi hin
      have := hm (i + 1) (by omega) (by omega)
      have hi' : a + 1 + i < s.length := by simp at hi; omega
      rw [List.getElem_drop]
      rw [show a + (i + 1) = a + 1 + i from by omega] at this
      simpa [hi'] using this
    · intro h
      have h' : a + n < s.length := by simp at h; omega
      have := hx hb h'
      rw [List.getElem_drop]
      have e : a + 1 + (n - 1) = a + n := by omega
      simp only [e]
      simpa [h'] using this
  · rw [if_neg hb]
    rcases Nat.lt_or_ge 1 n with h | h
    · exact absurd (hl h) hb
    · omega
/-- The pieces that are no blanks, with their places. -/
def piecesL : Nat → Nat → List UInt8 → List (Nat × List UInt8)
  | 0, _, _ => []
  | _ + 1, _, [] => []
  | f + 1, a, b :: r => (if b = 32 then [] else [(a, (b :: r).take (spanLen (b :: r)))]) ++ piecesL f (a + spanLen (b :: r)) ((b :: r).drop (spanLen (b :: r)))
theorem piecesL_step {s : List UInt8} {a f : Nat} (ha : a < s.length) : piecesL (f + 1) a (s.drop a) =
    (if s.getD a 0 = 32 then [] else [(a, (s.drop a).take (spanLen (s.drop a)))]) ++ piecesL f (a + spanLen (s.drop a)) (s.drop (a + spanLen (s.drop a))) := by
  rw [← List.drop_drop]
  have e : s.drop a = s[a] :: s.drop (a + 1) := List.drop_eq_getElem_cons ha
  have e0 : s.getD a 0 = s[a] := by simp [ha]
  rw [e0, e]
  rfl
theorem piecesL_end {s : List UInt8} {a f : Nat} (ha : s.length ≤ a) : piecesL f a (s.drop a) = [] := by
  rw [List.drop_eq_nil_of_le ha]
  cases f <;> rfl
def piecesOf (s : List UInt8) : List (Nat × List UInt8) := piecesL s.length 0 s
theorem piecesL_length : ∀ (f a : Nat) (s : List UInt8), (piecesL f a s).length ≤ f
  | 0, _, _ => by simp [piecesL]
  | _ + 1, _, [] => by simp [piecesL]
  | f + 1, a, b :: r => by
    have := piecesL_length f (a + spanLen (b :: r)) ((b :: r).drop (spanLen (b :: r)))
    simp only [piecesL, List.length_append]
    split <;> simp <;> omega
/-- What a piece is: not empty, not long, and of letters if it begins with one. -/
def okPiece (t : List UInt8) : Prop := t ≠ [] ∧ t.length ≤ 1048576 ∧ (letU (t.headD 0) = true → t.all letU = true)
theorem okPiece_take {s : List UInt8} (h : s ≠ []) (hs : s.length ≤ 1048576) : okPiece (s.take (spanLen s)) := by
  cases s with
  | nil => exact absurd rfl h
  | cons b r =>
    have hp := spanLen_pos h
    refine ⟨?_, by simp at hs ⊢; omega, fun hl => ?_⟩
    · intro e
      have := congrArg List.length e
      simp at this
      omega
    · have hb : letU b = true := by
        obtain ⟨n, hn⟩ : ∃ n, spanLen (b :: r) = n + 1 := ⟨spanLen (b :: r) - 1, by omega⟩
        rw [hn] at hl
        simpa using hl
      have e : spanLen (b :: r) = 1 + (r.takeWhile letU).length := by simp [spanLen, hb]
      rw [e, Nat.add_comm, List.take_succ_cons, List.all_cons, hb, Bool.true_and]
      have : r.take (r.takeWhile letU).length = r.takeWhile letU := by
        have h1 := List.takeWhile_append_dropWhile (p := letU) (l := r)
        conv => lhs; rw [← h1]
        rw [List.take_append_of_le_length (by simp)]
        have : (r.takeWhile letU ++ r.dropWhile letU) = r := h1
        rw [this]; simp
      rw [this, List.all_takeWhile]
end Go.Proofs.YtbbgieopcmjoeaaGreatDoor
