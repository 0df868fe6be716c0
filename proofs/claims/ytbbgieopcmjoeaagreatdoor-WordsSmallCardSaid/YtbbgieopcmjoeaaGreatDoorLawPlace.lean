/- WordsPlace: the law's walk, and what it asks of tokens. -/
import Derived.Test.YtbbgieopcmjoeaaGreatDoorSeams
import Derived.Test.YtbbgieopcmjoeaaGreatDoorLawThird
namespace Go.Proofs.YtbbgieopcmjoeaaGreatDoor
open Go.RowKit
theorem tokensR_cases (s : List UInt8) (h : s.length ≤ 1000) : (∃ l, tokensR s = (l, 0, 0)) ∨ ∃ a : Nat, tokensR s = ([], (a : Int), 332) := by
  unfold tokensR
  rw [if_neg (by omega)]
  cases tokAll (piecesOf s) ([], false) with
  | inl a => exact .inr ⟨a, rfl⟩
  | inr st =>
    cases h2 : st.2
    · exact .inr ⟨s.length, by simp [h2]⟩
    · exact .inl ⟨st.1, by simp [h2]⟩
/-- Where the error is at place a: the text splits there, what stands ahead has gone well, and either nothing follows, or a piece that is refused. -/
theorem tokens_err {s : List UInt8} {a : Nat} (h : tokensR s = ([], (a : Int), 332)) : ∃ p q st, s = p ++ q ∧ p.length = a ∧ Seam p q ∧ tokAll (pcs 0 p) ([], false) = .inr st ∧
    ((q = [] ∧ st.2 = false) ∨ (q ≠ [] ∧ q.headD 0 ≠ 32 ∧ tokStep st (q.take (spanLen q)) = none)) := by
  unfold tokensR at h
  split at h
  · simp at h
  · cases hT : tokAll (piecesOf s) ([], false) with
    | inl b =>
      rw [hT] at h
      have h' : (([] : List (List UInt8)), (b : Int), (332 : Int)) = ([], (a : Int), 332) := h
      have hb : b = a := Int.ofNat.inj (Prod.mk.inj (Prod.mk.inj h').2).1
      subst hb
      obtain ⟨pre, x, post, st, h1, h2, h3, h4⟩ := tokAll_inl _ _ hT
      obtain ⟨p, q, k1, k2, k3, k4, k5, k6, k7⟩ := pcs_split s.length s 0 pre x post (Nat.le_refl _) h1
      exact ⟨p, q, st, k1, by omega, k6, by rw [k7]; exact h3, .inr ⟨k3, k5, by rw [← k4]; exact h4⟩⟩
    | inr st =>
      rw [hT] at h
      have h' : (if st.2 then (st.1, (0 : Int), (0 : Int)) else (([] : List (List UInt8)), (s.length : Int), (332 : Int))) = ([], (a : Int), 332) := h
      cases h2 : st.2
      · rw [h2] at h'
        have ha : s.length = a := Int.ofNat.inj (Prod.mk.inj (Prod.mk.inj h').2).1
        exact ⟨s, [], st, by simp, ha, .inl rfl, hT, .inl ⟨rfl, h2⟩⟩
      · rw [h2] at h'; simp at h'
theorem tokens_eq {s : List UInt8} (h : s.length ≤ 1000) : tokensR s = match tokAll (pcs 0 s) ([], false) with
    | .inl a => ([], (a : Int), 332)
    | .inr st => if st.2 then (st.1, 0, 0) else ([], (s.length : Int), 332) := by
  unfold tokensR
  rw [if_neg (by omega)]; rfl
theorem pcs_head {a : Nat} {q : List UInt8} (h : q ≠ []) (h32 : q.headD 0 ≠ 32) : ∃ r, pcs a q = (a, q.take (spanLen q)) :: r := by
  cases q with
  | nil => exact absurd rfl h
  | cons b r =>
    rw [pcs_cons, if_neg (by simpa using h32)]
    exact ⟨_, rfl⟩
theorem place_again {s behind : List UInt8} {a : Nat} (h : tokensR s = ([], (a : Int), 332)) (ha : a < s.length) (hl : (s.take (a + 1) ++ behind).length ≤ 1000) : tokensR (s.take (a + 1) ++ behind) = ([], (a : Int), 332) := by
  obtain ⟨p, q, st, rfl, rfl, h1, h2, ⟨rfl, -⟩ | ⟨h3, h4, h5⟩⟩ := tokens_err h
  · simp at ha
  · have e : (p ++ q).take (p.length + 1) ++ behind = p ++ (q.take 1 ++ behind) := by
      rw [List.take_append, List.take_of_length_le (by omega : p.length ≤ p.length + 1)]
      simp
    rw [e] at hl ⊢
    have hq : q.take 1 ++ behind ≠ [] := by cases q with | nil => exact absurd rfl h3 | cons => simp
    have hh : (q.take 1 ++ behind).headD 0 = q.headD 0 := by cases q with | nil => exact absurd rfl h3 | cons => simp
    have hS : Seam p (q.take 1 ++ behind) := by
      rcases h1 with h1 | h1 | h1
      · exact absurd h1 h3
      · exact .inr (.inl (by rw [hh]; exact h1))
      · exact .inr (.inr h1)
    obtain ⟨r, hr⟩ := pcs_head (a := 0 + p.length) hq (by rw [hh]; exact h4)
    rw [tokens_eq hl, seam_pcs _ _ _ _ (Nat.le_refl _) hS, tokAll_append, h2, hr]
    simp only [tokAll, step_none h3 hq hh h5, Nat.zero_add]
theorem tokStep_dot (out : List (List UInt8)) (h : out ≠ []) : tokStep (out, false) [46] = some (out ++ [[46]], true) := by
  cases out with
  | nil => exact absurd rfl h
  | cons x r => rfl
theorem place_begin {s : List UInt8} {a : Nat} (h : tokensR s = ([], (a : Int), 332)) (hs : s.length ≤ 500) :
    (tokensR (s.take a)).2.2 = 0 ∨ ((tokensR (s.take a ++ [46])).2.2 = 0 ∧ 1 < (tokensR (s.take a ++ [46])).1.length) ∨ ((tokensR (s.take a ++ [32, 120, 46])).2.2 = 0 ∧ 1 < (tokensR (s.take a ++ [32, 120, 46])).1.length) := by
  obtain ⟨p, q, st, rfl, rfl, h1, h2, -⟩ := tokens_err h
  rw [List.length_append] at hs
  rw [List.take_left']
  · obtain ⟨out, en⟩ := st
    cases en
    · right
      cases out with
      | nil =>
        right
        rw [tokens_eq (by simp; omega), seam_pcs _ _ _ _ (Nat.le_refl _) (.inr (.inl (by decide))), tokAll_append, h2]
        have : pcs (0 + p.length) [32, 120, 46] = [(0 + p.length + 1, [120]), (0 + p.length + 1 + 1, [46])] := rfl
        rw [this]
        exact ⟨rfl, (by show 1 < 2; omega)⟩
      | cons x r =>
        left
        rw [tokens_eq (by simp; omega), seam_pcs _ _ _ _ (Nat.le_refl _) (.inr (.inl (by decide))), tokAll_append, h2]
        have : pcs (0 + p.length) [46] = [(0 + p.length, [46])] := rfl
        rw [this]
        simp only [tokAll, tokStep_dot (x :: r) (by simp)]
        exact ⟨rfl, by simp⟩
    · left
      rw [tokens_eq (by omega), h2]
      rfl
  · rfl
end Go.Proofs.YtbbgieopcmjoeaaGreatDoor
