/- WordsBack: the text of tokens has these tokens; no two blanks stand beside each other in it. Plain lists, no program in sight. -/
import Derived.Test.YtbbgieopcmjoeaaGreatDoorBackP
namespace Go.Proofs.YtbbgieopcmjoeaaGreatDoor
def bodyT (r : List (List UInt8)) : List UInt8 := r.flatMap fun t => sepT t ++ t
theorem joinT_body : ∀ (r : List (List UInt8)) (acc : List UInt8), joinT acc r = acc ++ bodyT r
  | [], acc => by simp [joinT, bodyT]
  | t :: r, acc => by
    simp only [joinT]
    rw [joinT_body r]
    simp [bodyT]
theorem joinK_all (t : List UInt8) (r : List (List UInt8)) : joinK (t :: r) (t :: r).length = capT t ++ bodyT r := by
  unfold joinK
  rw [joinT_body]
  simp [List.take_of_length_le]
theorem sep_word {t : List UInt8} (h : wordL t = true) : sepT t = [32] := by
  obtain ⟨-, -, -, h1, h2⟩ := wordL_ne h
  unfold sepT; rw [h1, h2]; rfl
theorem tok_cases {t : List UInt8} (h : tokOk t = true) : t = [44] ∨ t = [46] ∨ wordL t = true := by
  unfold tokOk at h
  simp only [Bool.or_eq_true, beq_iff_eq] at h
  exact h
theorem seam_body (p : List UInt8) : ∀ r : List (List UInt8), (∀ t ∈ r, tokOk t = true) → Seam p (bodyT r)
  | [], _ => .inl rfl
  | t :: r, h => by
    right; left
    rcases tok_cases (h t (by simp)) with rfl | rfl | hw
    · rfl
    · rfl
    · simp [bodyT, sep_word hw]; decide
theorem tw_all : ∀ r : List UInt8, (∀ x ∈ r, letU x = true) → r.takeWhile letU = r
  | [], _ => rfl
  | b :: r, h => by
    rw [List.takeWhile_cons, h b (by simp)]
    simp only [if_true]
    rw [tw_all r fun x hx => h x (by simp [hx])]
theorem span_word {t : List UInt8} (h : wordL t = true) : spanLen t = t.length := by
  obtain ⟨h1, h2, h3, -, -⟩ := wordL_ne h
  cases t with
  | nil => exact absurd rfl h1
  | cons b r =>
    have hb : letU b = true := h3
    have hr : r.takeWhile letU = r := by
      rw [List.all_cons, Bool.and_eq_true] at h2
      exact tw_all r fun x hx => List.all_eq_true.1 h2.2 x hx
    simp [spanLen, hb, hr]; omega
theorem pcs_word {t : List UInt8} (h : wordL t = true) (a : Nat) : pcs a t = [(a, t)] := by
  have hs := span_word h
  obtain ⟨h1, h2, h3, -, -⟩ := wordL_ne h
  cases t with
  | nil => exact absurd rfl h1
  | cons b r =>
    have hb : letU b = true := h3
    have h32 : b ≠ 32 := by rintro rfl; exact absurd hb (by decide)
    rw [pcs_cons, if_neg h32, hs]
    simp [pcs_nil]
theorem pcs_sep {t : List UInt8} (h : tokOk t = true) (a : Nat) : (pcs a (sepT t ++ t)).map (·.2) = [t] := by
  rcases tok_cases h with rfl | rfl | hw
  · rfl
  · rfl
  · rw [sep_word hw]
    show (pcs a (32 :: t)).map (·.2) = [t]
    have e : pcs a (32 :: t) = pcs (a + 1) t := by rw [pcs_cons]; rfl
    rw [e, pcs_word hw]; rfl
theorem pcs_body : ∀ (r : List (List UInt8)) (a : Nat), (∀ t ∈ r, tokOk t = true) → (pcs a (bodyT r)).map (·.2) = r
  | [], a, _ => rfl
  | t :: r, a, h => by
    have e : bodyT (t :: r) = (sepT t ++ t) ++ bodyT r := rfl
    rw [e, seam_pcs _ _ _ _ (Nat.le_refl _) (seam_body _ r fun x hx => h x (by simp [hx])), List.map_append, pcs_sep (h t (by simp)), pcs_body r _ fun x hx => h x (by simp [hx])]
    rfl
/-- Tokens by their texts alone. -/
def tokT : List (List UInt8) → List (List UInt8) × Bool → Option (List (List UInt8) × Bool)
  | [], st => some st
  | t :: r, st => match tokStep st t with
    | none => none
    | some st' => tokT r st'
theorem tokAll_T : ∀ (ps : List (Nat × List UInt8)) (st st' : List (List UInt8) × Bool), tokT (ps.map (·.2)) st = some st' → tokAll ps st = .inr st'
  | [], st, st', h => by rw [Option.some.inj (show some st = some st' from h)]; rfl
  | p :: r, st, st', h => by
    simp only [List.map_cons, tokT] at h
    simp only [tokAll]
    cases hs : tokStep st p.2 with
    | none => rw [hs] at h; cases h
    | some st2 => rw [hs] at h; exact tokAll_T r st2 st' h
theorem tokT_rest : ∀ (r' : List (List UInt8)) (out : List (List UInt8)), out ≠ [] → (∀ t ∈ r', tokOk t = true) → (∀ t ∈ r', (t == [46]) = false) → tokT (r' ++ [[46]]) (out, false) = some (out ++ (r' ++ [[46]]), true)
  | [], out, ho, _, _ => by
    simp only [List.nil_append, tokT, tokStep_dot out ho]
  | t :: r', out, ho, h1, h2 => by
    have hs : tokStep (out, false) t = some (out ++ [t], false) := by
      have he : out.isEmpty = false := by cases out with | nil => exact absurd rfl ho | cons => rfl
      have hd := h2 t (by simp)
      have hx : (!letU (t.headD 0) && (!(t == [44]) && !(t == [46]))) = false := by
        rcases tok_cases (h1 t (by simp)) with rfl | rfl | hw
        · rfl
        · rfl
        · rw [(wordL_ne hw).2.2.1]; rfl
      have e : tokStep (out, false) t = if (false || ((!letU (t.headD 0) && (!(t == [44]) && !(t == [46]))) || (out.isEmpty && !letU (t.headD 0)))) then none else some (out ++ [if out.isEmpty && isFn (lowL t) then lowL t else t], (if out.isEmpty && isFn (lowL t) then lowL t else t) == [46]) := rfl
      rw [e, hx, he]
      simp [hd]
    simp only [List.cons_append, tokT, hs]
    rw [tokT_rest r' (out ++ [t]) (by simp) (fun x hx => h1 x (by simp [hx])) (fun x hx => h2 x (by simp [hx]))]
    simp
theorem cap_fn : ∀ t ∈ fwL, lowL (capT t) = t ∧ wordL (capT t) = true := by decide +kernel
theorem cap_first {t : List UInt8} (h1 : wordL t = true) (h2 : (isFn t || !isFn (lowL t)) = true) : wordL (capT t) = true ∧ tokStep ([], false) (capT t) = some ([t], false) := by
  have key : wordL (capT t) = true ∧ (if isFn (lowL (capT t)) then lowL (capT t) else capT t) = t := by
    cases hf : isFn t
    · have hc : capT t = t := by unfold capT; rw [hf]; rfl
      rw [hf] at h2
      have hl : isFn (lowL t) = false := by simpa using h2
      rw [hc, hl]
      exact ⟨h1, rfl⟩
    · have hm : t ∈ fwL := by unfold isFn at hf; exact List.contains_iff_mem.1 hf
      obtain ⟨k1, k2⟩ := cap_fn t hm
      rw [k1, hf]
      exact ⟨k2, rfl⟩
  obtain ⟨k1, k2⟩ := key
  refine ⟨k1, ?_⟩
  unfold tokStep
  have hl := (wordL_ne k1).2.2.1
  simp only [hl, List.isEmpty_nil, Bool.true_and, Bool.not_true, Bool.false_and, Bool.and_false, Bool.or_false, k2, List.nil_append, (wordL_ne h1).2.2.2.2]
  rfl
/-- The text of the tokens of a sentence has the same tokens. -/
theorem back_tokens {l : List (List UInt8)} (h : Good l true) (hl : (joinK l l.length).length ≤ 1000) : tokensR (joinK l l.length) = (l, 0, 0) := by
  rcases h with ⟨-, h⟩ | ⟨t, r, rfl, h1, h2, h3, ⟨h4, -⟩ | ⟨-, r', rfl, h5⟩⟩
  · cases h
  · cases h4
  · obtain ⟨k1, k2⟩ := cap_first h1 h2
    rw [joinK_all] at hl ⊢
    rw [tokens_eq hl]
    have e : tokAll (pcs 0 (capT t ++ bodyT (r' ++ [[46]]))) ([], false) = .inr (t :: (r' ++ [[46]]), true) := by
      apply tokAll_T
      rw [seam_pcs _ _ _ _ (Nat.le_refl _) (seam_body _ _ h3), List.map_append, pcs_word k1, pcs_body _ _ h3]
      simp only [List.map_cons, List.map_nil, List.cons_append, List.nil_append, tokT, k2]
      exact tokT_rest r' [t] (by simp) (fun x hx => h3 x (by simp [hx])) h5
    rw [e]; rfl
/-- Behind each blank stands a letter. -/
def blOk : List UInt8 → Bool
  | [] => true
  | [b] => b != 32
  | b :: c :: r => (b != 32 || letU c) && blOk (c :: r)
theorem blOk_append : ∀ a b : List UInt8, blOk a = true → blOk b = true → blOk (a ++ b) = true
  | [], _, _, h => h
  | [x], [], h, _ => h
  | [x], c :: r, h, h' => by
    have hx : (x != 32) = true := h
    simp only [List.cons_append, List.nil_append, blOk, hx, h', Bool.true_or, Bool.and_self]
  | x :: y :: a, b, h, h' => by
    simp only [blOk, Bool.and_eq_true] at h
    have := blOk_append (y :: a) b h.2 h'
    simp only [List.cons_append, blOk, Bool.and_eq_true] at this ⊢
    exact ⟨h.1, this⟩
theorem blOk_letters : ∀ t : List UInt8, t.all letU = true → blOk t = true
  | [], _ => rfl
  | [b], h => by
    have hb : letU b = true := by simpa using h
    show (b != 32) = true
    rw [bne_iff_ne]; rintro rfl; exact absurd hb (by decide)
  | b :: c :: r, h => by
    rw [List.all_cons, Bool.and_eq_true] at h
    have h2 := blOk_letters (c :: r) h.2
    rw [List.all_cons, Bool.and_eq_true] at h
    simp only [blOk, Bool.and_eq_true]
    exact ⟨by rw [h.2.1]; simp, h2⟩
theorem blOk_body : ∀ r : List (List UInt8), (∀ t ∈ r, tokOk t = true) → blOk (bodyT r) = true
  | [], _ => rfl
  | t :: r, h => by
    have e : bodyT (t :: r) = (sepT t ++ t) ++ bodyT r := rfl
    rw [e]
    refine blOk_append _ _ ?_ (blOk_body r fun x hx => h x (by simp [hx]))
    rcases tok_cases (h t (by simp)) with rfl | rfl | hw
    · rfl
    · rfl
    · rw [sep_word hw]
      obtain ⟨h1, h2, h3, -, -⟩ := wordL_ne hw
      cases t with
      | nil => exact absurd rfl h1
      | cons b q =>
        have hb : letU b = true := h3
        show ((32 != 32 || letU b) && blOk (b :: q)) = true
        rw [hb, blOk_letters _ h2]; rfl
theorem back_blanks {l : List (List UInt8)} (h : Good l true) : blOk (joinK l l.length) = true := by
  rcases h with ⟨-, h⟩ | ⟨t, r, rfl, h1, h2, h3, -⟩
  · cases h
  · rw [joinK_all]
    exact blOk_append _ _ (blOk_letters _ (wordL_all (cap_first h1 h2).1)) (blOk_body r h3)
end Go.Proofs.YtbbgieopcmjoeaaGreatDoor
