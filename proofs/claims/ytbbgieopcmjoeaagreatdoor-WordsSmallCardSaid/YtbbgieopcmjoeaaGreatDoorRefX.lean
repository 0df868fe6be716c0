/- The text of tokens, put together token by token: plain lists, no program in sight. -/
import Derived.Test.YtbbgieopcmjoeaaGreatDoorBackQ
namespace Go.Proofs.YtbbgieopcmjoeaaGreatDoor
def tokA (l : List (List UInt8)) (i : Nat) : List UInt8 := l.getD i []
/-- Token i cannot stand there. -/
def badT (l : List (List UInt8)) (i : Nat) : Bool :=
  (!wordL (tokA l i) && ((!(tokA l i == [44]) && !(tokA l i == [46])) || i == 0)) || (((tokA l i == [46]) != (i + 1 == l.length)) || (i == 0 && (isFn (lowL (tokA l i)) && !isFn (tokA l i))))
theorem tokA_at {l : List (List UInt8)} {i : Nat} (h : i < l.length) : tokA l i = l[i] := by simp [tokA, h]
theorem shape_of {l : List (List UInt8)} (h0 : 0 < l.length) (h : ∀ i, i < l.length → badT l i = false) : shapeL l = true := by
  cases l with
  | nil => simp at h0
  | cons t r =>
    have b0 := h 0 h0
    have e0 : tokA (t :: r) 0 = t := rfl
    unfold badT at b0
    rw [e0] at b0
    simp only [Bool.or_eq_false_iff, beq_self_eq_true, Bool.or_true, Bool.and_true, Bool.true_and, Bool.not_eq_false'] at b0
    obtain ⟨hw, -, hf⟩ := b0
    have hf2 : (isFn t || !isFn (lowL t)) = true := by cases h1 : isFn t <;> cases h2 : isFn (lowL t) <;> simp_all
    have hall : (t :: r).all tokOk = true := by
      rw [List.all_eq_true]
      intro x hx
      obtain ⟨i, hi, rfl⟩ := List.getElem_of_mem hx
      have := h i hi
      unfold badT at this
      rw [tokA_at hi] at this
      unfold tokOk
      cases h1 : wordL (t :: r)[i] <;> cases h2 : ((t :: r)[i] == [44]) <;> cases h3 : ((t :: r)[i] == [46]) <;> simp_all
    have hd : dotAt (t :: r) = r.length := by
      unfold dotAt
      refine firstIdx_eq _ _ _ (by simp) (fun i hi => ?_) (fun _ => ?_)
      · have hi' : i < (t :: r).length := by simp; omega
        have := h i hi'
        unfold badT at this
        rw [tokA_at hi'] at this
        have hne : (i + 1 == (t :: r).length) = false := by rw [beq_eq_false_iff_ne]; simp; omega
        rw [hne] at this
        simp only [Bool.or_eq_false_iff] at this
        have h4 : ((t :: r)[i] == [46]) = false := by cases h5 : ((t :: r)[i] == [46]) <;> simp_all
        simp only [atT, List.getElem?_eq_getElem hi', Option.map_some, Option.getD_some, h4]
      · have hi' : r.length < (t :: r).length := by simp
        have := h r.length hi'
        unfold badT at this
        rw [tokA_at hi'] at this
        have hne : (r.length + 1 == (t :: r).length) = true := by simp
        rw [hne] at this
        simp only [Bool.or_eq_false_iff] at this
        have h4 : ((t :: r)[r.length] == [46]) = true := by cases h5 : ((t :: r)[r.length] == [46]) <;> simp_all
        simp only [atT, List.getElem?_eq_getElem hi', Option.map_some, Option.getD_some, h4]
    show (wordL t && ((isFn t || !isFn (lowL t)) && (((dotAt (t :: r) : Int) == ((t :: r).length : Int) - 1) && (t :: r).all tokOk))) = true
    rw [hw, hf2, hall, hd]
    simp
theorem shape_good {l : List (List UInt8)} (h : shapeL l = true) : ∀ i, i < l.length → badT l i = false := by
  cases l with
  | nil => intro i hi; simp at hi
  | cons t r =>
    have h' : (wordL t && ((isFn t || !isFn (lowL t)) && (((dotAt (t :: r) : Int) == ((t :: r).length : Int) - 1) && (t :: r).all tokOk))) = true := h
    simp only [Bool.and_eq_true] at h'
    obtain ⟨hw, hf, hd, hall⟩ := h'
    have hd' : dotAt (t :: r) = r.length := by
      have := beq_iff_eq.1 hd
      simp at this; omega
    obtain ⟨k1, k2⟩ := firstIdx_spec (atT (fun t => t == [46]) (t :: r)) (t :: r).length
    have hd2 : firstIdx (atT (fun t => t == [46]) (t :: r)) (t :: r).length = r.length := hd'
    rw [hd2] at k1 k2
    intro i hi
    have hok : tokOk (t :: r)[i] = true := List.all_eq_true.1 hall _ (List.getElem_mem hi)
    have hstop : ((t :: r)[i] == [46]) = (i + 1 == (t :: r).length) := by
      rcases Nat.lt_or_ge i r.length with h1 | h1
      · have := k1 i h1
        simp only [atT, List.getElem?_eq_getElem hi, Option.map_some, Option.getD_some] at this
        rw [this]; symm; rw [beq_eq_false_iff_ne]; simp; omega
      · obtain rfl : i = r.length := by simp at hi; omega
        have := k2 (by simp)
        simp only [atT, List.getElem?_eq_getElem hi, Option.map_some, Option.getD_some] at this
        rw [this]; symm; simp
    have h0 : i = 0 → wordL (t :: r)[i] = true ∧ (isFn (t :: r)[i] || !isFn (lowL (t :: r)[i])) = true := by
      intro e; subst e; exact ⟨hw, hf⟩
    unfold badT
    rw [tokA_at hi, hstop]
    unfold tokOk at hok
    rw [hstop] at hok
    cases hz : (i == 0)
    · cases h1 : wordL (t :: r)[i] <;> cases h2 : ((t :: r)[i] == [44]) <;> cases h3 : (i + 1 == (t :: r).length) <;> simp_all
    · obtain ⟨a, b⟩ := h0 (beq_iff_eq.1 hz)
      rw [a]
      cases h1 : isFn (t :: r)[i] <;> cases h2 : isFn (lowL (t :: r)[i]) <;> simp_all
theorem shape_bad {l : List (List UInt8)} {i : Nat} (hi : i < l.length) (h : badT l i = true) : shapeL l = false := by
  cases hs : shapeL l
  · rfl
  · rw [shape_good hs i hi] at h; cases h
/-- What token i adds to the text. -/
def partT (l : List (List UInt8)) (i : Nat) : List UInt8 := if i = 0 then capT (tokA l 0) else (if wordL (tokA l i) then [32] else []) ++ tokA l i
def joinP (l : List (List UInt8)) : Nat → List UInt8
  | 0 => []
  | k + 1 => joinP l k ++ partT l k
theorem partT_len {l : List (List UInt8)} {m : Nat} (hl : ∀ t ∈ l, t.length ≤ m) (i : Nat) : (partT l i).length ≤ m + 1 := by
  have ht : (tokA l i).length ≤ m := by
    unfold tokA
    rw [List.getD_eq_getElem?_getD]
    cases h : l[i]? with
    | none => simp
    | some t => exact hl t (List.mem_of_getElem? h)
  unfold partT
  split
  · rename_i h; subst h; rw [capT_len]; omega
  · rw [List.length_append]; split <;> simp <;> omega
theorem joinP_len {l : List (List UInt8)} {m : Nat} (hl : ∀ t ∈ l, t.length ≤ m) : ∀ k, (joinP l k).length ≤ k * (m + 1)
  | 0 => by simp [joinP]
  | k + 1 => by
    have h1 := joinP_len hl k
    have h2 := partT_len hl k
    simp only [joinP, List.length_append, Nat.succ_mul]; omega
theorem joinP_eq {l : List (List UInt8)} (hok : ∀ t ∈ l, tokOk t = true) : ∀ k, k + 1 ≤ l.length → joinP l (k + 1) = joinK l k
  | 0, hk => by
    rw [joinK_zero]
    cases l with
    | nil => simp at hk
    | cons t r => simp [joinP, partT, tokA]
  | k + 1, hk => by
    have ih := joinP_eq hok k (by omega)
    have e : joinP l (k + 1 + 1) = joinP l (k + 1) ++ partT l (k + 1) := rfl
    rw [e, ih, joinK_succ l k (by omega)]
    have ht := hok _ (List.getElem_mem (show k + 1 < l.length by omega))
    unfold partT
    rw [if_neg (by omega), tokA_at (show k + 1 < l.length by omega), List.append_assoc]
    rcases tok_cases ht with h | h | h
    · rw [h]; rfl
    · rw [h]; rfl
    · rw [h, sep_word h]; rfl
theorem text_good {l : List (List UInt8)} (h0 : 0 < l.length) (h : ∀ i, i < l.length → badT l i = false) : textR l = if 1000 < (joinP l l.length).length then ([], 3) else (joinP l l.length, 0) := by
  have hs := shape_of h0 h
  have hok : ∀ t ∈ l, tokOk t = true := by
    cases l with
    | nil => simp at h0
    | cons t r =>
      have h' : (wordL t && ((isFn t || !isFn (lowL t)) && (((dotAt (t :: r) : Int) == ((t :: r).length : Int) - 1) && (t :: r).all tokOk))) = true := hs
      simp only [Bool.and_eq_true] at h'
      exact List.all_eq_true.1 h'.2.2.2
  have e : joinP l l.length = joinK l l.length := by
    obtain ⟨n, hn⟩ : ∃ n, l.length = n + 1 := ⟨l.length - 1, by omega⟩
    rw [hn, joinP_eq hok n (by omega)]
    unfold joinK
    rw [List.take_of_length_le (by simp; omega), List.take_of_length_le (by simp; omega)]
  unfold textR
  rw [hs, if_pos rfl, e]
theorem text_bad {l : List (List UInt8)} {i : Nat} (hi : i < l.length) (h : badT l i = true) : textR l = ([], 2) := by
  unfold textR; rw [shape_bad hi h]; rfl
end Go.Proofs.YtbbgieopcmjoeaaGreatDoor
