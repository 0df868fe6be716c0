/- Pieces and tokens of texts that are put together: plain lists, no program in sight. -/
import Derived.Test.YtbbgieopcmjoeaaGreatDoorAwake
namespace Go.Proofs.YtbbgieopcmjoeaaGreatDoor
theorem spanLen_le (s : List UInt8) : spanLen s ≤ s.length := by
  cases s with
  | nil => simp [spanLen]
  | cons b r =>
    have : (r.takeWhile letU).length ≤ r.length := (List.takeWhile_prefix letU).length_le
    simp only [spanLen, List.length_cons]
    split <;> omega
theorem piecesL_fuel : ∀ (n f g a : Nat) (s : List UInt8), s.length ≤ n → s.length ≤ f → s.length ≤ g → piecesL f a s = piecesL g a s
  | _, f, g, _, [], _, _, _ => by cases f <;> cases g <;> rfl
  | n + 1, f + 1, g + 1, a, b :: r, hn, hf, hg => by
    have h1 := spanLen_pos (s := b :: r) (by simp)
    simp only [piecesL]
    rw [piecesL_fuel n f g _ ((b :: r).drop (spanLen (b :: r)))]
    all_goals simp at hn hf hg ⊢; omega
  | 0, _, _, _, _ :: _, hn, _, _ => by simp at hn
  | _ + 1, 0, _, _, _ :: _, _, hf, _ => by simp at hf
  | _ + 1, _ + 1, 0, _, _ :: _, _, _, hg => by simp at hg
/-- The pieces of a text that begins at place a. -/
def pcs (a : Nat) (s : List UInt8) : List (Nat × List UInt8) := piecesL s.length a s
theorem pcs_of (s : List UInt8) : piecesOf s = pcs 0 s := rfl
theorem pcs_nil (a : Nat) : pcs a [] = [] := rfl
theorem pcs_cons (a : Nat) (b : UInt8) (r : List UInt8) : pcs a (b :: r) = (if b = 32 then [] else [(a, (b :: r).take (spanLen (b :: r)))]) ++ pcs (a + spanLen (b :: r)) ((b :: r).drop (spanLen (b :: r))) := by
  have h1 := spanLen_pos (s := b :: r) (by simp)
  unfold pcs
  show piecesL (r.length + 1) a (b :: r) = _
  simp only [piecesL]
  rw [piecesL_fuel r.length r.length _ _ ((b :: r).drop (spanLen (b :: r)))]
  all_goals simp; try omega
/-- No word goes through the place where the two texts meet. -/
def Seam (p q : List UInt8) : Prop := q = [] ∨ letU (q.headD 0) = false ∨ letU (p.getLast?.getD 0) = false
theorem tw_drop : ∀ r : List UInt8, r.drop (r.takeWhile letU).length = [] ∨ letU ((r.drop (r.takeWhile letU).length).headD 0) = false
  | [] => .inl rfl
  | b :: r => by
    cases hb : letU b
    · right; simp [hb]
    · have := tw_drop r
      simpa [hb] using this
theorem cut_seam (b : UInt8) (r : List UInt8) : Seam ((b :: r).take (spanLen (b :: r))) ((b :: r).drop (spanLen (b :: r))) := by
  cases hb : letU b
  · right; right; simp [spanLen, hb]
  · have e : spanLen (b :: r) = (r.takeWhile letU).length + 1 := by simp [spanLen, hb]; omega
    rw [e]
    rcases tw_drop r with h | h
    · left; simpa using h
    · right; left; simpa using h
theorem all_last : ∀ (r : List UInt8) (b : UInt8), letU b = true → (r.takeWhile letU).length = r.length → letU ((b :: r).getLast?.getD 0) = true
  | [], b, hb, _ => by simpa using hb
  | c :: r, b, hb, h => by
    have hc : letU c = true := by
      cases hc : letU c
      · simp [hc] at h
      · rfl
    have := all_last r c hc (by simpa [hc] using h)
    simpa using this
theorem span_append (b : UInt8) (r q : List UInt8) (h : Seam (b :: r) q) : spanLen (b :: r ++ q) = spanLen (b :: r) := by
  cases hb : letU b
  · simp [spanLen, hb]
  · have e : ((r ++ q).takeWhile letU).length = (r.takeWhile letU).length := by
      rw [List.takeWhile_append]
      split
      · rename_i hr
        rcases h with h | h | h
        · subst h; simp [hr]
        · have : q.takeWhile letU = [] := by
            cases q with
            | nil => rfl
            | cons c q => simp at h; simp [h]
          rw [this]; simp [hr]
        · rw [all_last r b hb hr] at h; cases h
      · rfl
    simp [spanLen, hb, e]
theorem seam_drop {p q : List UInt8} (m : Nat) (h : Seam p q) : Seam (p.drop m) q := by
  rcases h with h | h | h
  · exact .inl h
  · exact .inr (.inl h)
  · right; right
    rw [List.getLast?_drop]
    split
    · decide
    · exact h
theorem seam_pcs : ∀ (n : Nat) (p q : List UInt8) (a : Nat), p.length ≤ n → Seam p q → pcs a (p ++ q) = pcs a p ++ pcs (a + p.length) q
  | _, [], q, a, _, _ => by simp [pcs_nil]
  | 0, _ :: _, _, _, hn, _ => by simp at hn
  | n + 1, b :: r, q, a, hn, h => by
    have h1 := spanLen_pos (s := b :: r) (by simp)
    have h2 := spanLen_le (b :: r)
    have e := span_append b r q h
    rw [List.cons_append] at e ⊢
    rw [pcs_cons, pcs_cons, e, ← List.cons_append, List.take_append_of_le_length h2, List.drop_append_of_le_length h2,
      seam_pcs n _ q _ (by simp at hn ⊢; omega) (seam_drop _ h), List.append_assoc]
    congr 3
    simp at h2 ⊢; omega
theorem pcs_cut (a : Nat) (b : UInt8) (r : List UInt8) : pcs a ((b :: r).take (spanLen (b :: r))) = if b = 32 then [] else [(a, (b :: r).take (spanLen (b :: r)))] := by
  have h1 := spanLen_pos (s := b :: r) (by simp)
  obtain ⟨m, hm⟩ : ∃ m, spanLen (b :: r) = m + 1 := ⟨spanLen (b :: r) - 1, by omega⟩
  have hs := cut_seam b r
  rw [hm] at hs ⊢
  rw [List.take_succ_cons] at hs ⊢
  have e := span_append b (r.take m) ((b :: r).drop (m + 1)) hs
  have e2 : b :: r.take m ++ (b :: r).drop (m + 1) = b :: r := by simp
  rw [e2, hm] at e
  have h2 := spanLen_le (b :: r)
  rw [pcs_cons, ← e]
  have hl : m ≤ r.length := by simp at h2; omega
  have e3 : (b :: r.take m).drop (m + 1) = [] := by simp
  have e4 : (b :: r.take m).take (m + 1) = b :: r.take m := by simp [List.take_take]
  rw [e3, e4, pcs_nil, List.append_nil]
theorem seam_join {x p q : List UInt8} (h1 : Seam x (p ++ q)) (h2 : Seam p q) : Seam (x ++ p) q := by
  cases hp : p with
  | nil => subst hp; simpa using h1
  | cons c r =>
    rw [← hp]
    rcases h2 with h | h | h
    · exact .inl h
    · exact .inr (.inl h)
    · right; right
      have : (x ++ p).getLast?.getD 0 = p.getLast?.getD 0 := by rw [hp]; simp [List.getLast?_append, List.getLast?_cons]
      rw [this]; exact h
theorem seam_front {x p q : List UInt8} (h : Seam x (p ++ q)) : Seam x p := by
  cases hp : p with
  | nil => exact .inl rfl
  | cons c r =>
    rcases h with h | h | h
    · rw [hp] at h; simp at h
    · right; left; rw [hp] at h; simpa using h
    · exact .inr (.inr h)
theorem pcs_split : ∀ (n : Nat) (s : List UInt8) (a : Nat) (pre : List (Nat × List UInt8)) (x : Nat × List UInt8) (post : List (Nat × List UInt8)), s.length ≤ n → pcs a s = pre ++ x :: post →
    ∃ p q, s = p ++ q ∧ x.1 = a + p.length ∧ q ≠ [] ∧ x.2 = q.take (spanLen q) ∧ q.headD 0 ≠ 32 ∧ Seam p q ∧ pcs a p = pre
  | _, [], a, pre, x, post, _, h => by simp [pcs_nil] at h
  | 0, _ :: _, _, _, _, _, hn, _ => by simp at hn
  | n + 1, b :: r, a, pre, x, post, hn, h => by
    have h1 := spanLen_pos (s := b :: r) (by simp)
    have h2 := spanLen_le (b :: r)
    have hcut := cut_seam b r
    have hpc := pcs_cut a b r
    have hlen : ((b :: r).take (spanLen (b :: r))).length = spanLen (b :: r) := by rw [List.length_take]; omega
    rw [pcs_cons] at h
    have go : ∀ pre', pcs (a + spanLen (b :: r)) ((b :: r).drop (spanLen (b :: r))) = pre' ++ x :: post →
        ∃ p q, b :: r = p ++ q ∧ x.1 = a + p.length ∧ q ≠ [] ∧ x.2 = q.take (spanLen q) ∧ q.headD 0 ≠ 32 ∧ Seam p q ∧ pcs a p = (if b = 32 then [] else [(a, (b :: r).take (spanLen (b :: r)))]) ++ pre' := fun pre' h' => by
      obtain ⟨p, q, e, k1, k2, k3, k4, k5, k6⟩ := pcs_split n _ _ _ _ _ (by simp at hn ⊢; omega) h'
      rw [e] at hcut
      refine ⟨(b :: r).take (spanLen (b :: r)) ++ p, q, ?_, ?_, k2, k3, k4, seam_join hcut k5, ?_⟩
      · rw [List.append_assoc, ← e, List.take_append_drop]
      · rw [k1, List.length_append, hlen]; omega
      · rw [seam_pcs _ _ _ _ (Nat.le_refl _) (seam_front hcut), hpc, hlen, k6]
    by_cases hb : b = 32
    · rw [if_pos hb] at h go
      exact go pre (by simpa using h)
    · rw [if_neg hb] at h go
      cases pre with
      | nil =>
        have e : (a, (b :: r).take (spanLen (b :: r))) = x := by simpa using (List.cons.inj (show _ :: _ = x :: post from h)).1
        subst e
        exact ⟨[], b :: r, rfl, by simp, by simp, rfl, by simpa using hb, .inr (.inr (by decide)), rfl⟩
      | cons y pre' =>
        obtain ⟨e1, e2⟩ := List.cons.inj (show _ :: _ = y :: (pre' ++ x :: post) from h)
        obtain ⟨p, q, g⟩ := go pre' e2
        rw [e1] at g
        exact ⟨p, q, g⟩
theorem tokAll_append (ps qs : List (Nat × List UInt8)) (st : List (List UInt8) × Bool) : tokAll (ps ++ qs) st = match tokAll ps st with
    | .inl a => .inl a
    | .inr st' => tokAll qs st' := by
  induction ps generalizing st with
  | nil => rfl
  | cons p r ih =>
    simp only [List.cons_append, tokAll]
    cases tokStep st p.2 with
    | none => rfl
    | some st' => exact ih st'
theorem tokAll_inl {a : Nat} : ∀ (ps : List (Nat × List UInt8)) (st : List (List UInt8) × Bool), tokAll ps st = .inl a → ∃ pre x post st', ps = pre ++ x :: post ∧ x.1 = a ∧ tokAll pre st = .inr st' ∧ tokStep st' x.2 = none
  | [], st, h => by cases h
  | p :: r, st, h => by
    simp only [tokAll] at h
    cases hs : tokStep st p.2 with
    | none =>
      rw [hs] at h
      exact ⟨[], p, r, st, rfl, Sum.inl.inj h, rfl, hs⟩
    | some st' =>
      rw [hs] at h
      obtain ⟨pre, x, post, st2, h1, h2, h3, h4⟩ := tokAll_inl r st' h
      exact ⟨p :: pre, x, post, st2, by rw [h1]; rfl, h2, by simp only [tokAll, hs]; exact h3, h4⟩
theorem piece_head {q : List UInt8} (h : q ≠ []) : (q.take (spanLen q)).headD 0 = q.headD 0 ∧ (letU (q.headD 0) = false → q.take (spanLen q) = [q.headD 0]) := by
  cases q with
  | nil => exact absurd rfl h
  | cons b r =>
    have h1 := spanLen_pos (s := b :: r) (by simp)
    obtain ⟨m, hm⟩ : ∃ m, spanLen (b :: r) = m + 1 := ⟨spanLen (b :: r) - 1, by omega⟩
    refine ⟨by rw [hm]; rfl, fun hb => ?_⟩
    have hb' : letU b = false := hb
    have : spanLen (b :: r) = 1 := by simp [spanLen, hb']
    rw [this]; rfl
theorem step_none {st : List (List UInt8) × Bool} {q q' : List UInt8} (hq : q ≠ []) (hq' : q' ≠ []) (hh : q'.headD 0 = q.headD 0) (h : tokStep st (q.take (spanLen q)) = none) : tokStep st (q'.take (spanLen q')) = none := by
  obtain ⟨h1, h2⟩ := piece_head hq
  obtain ⟨h3, h4⟩ := piece_head hq'
  cases hl : letU (q.headD 0)
  · rw [h4 (by rw [hh]; exact hl), hh, ← h2 hl]; exact h
  · unfold tokStep at h ⊢
    rw [h1, hl] at h
    rw [h3, hh, hl]
    cases h2 : st.2
    · rw [h2] at h; simp at h
    · simp
end Go.Proofs.YtbbgieopcmjoeaaGreatDoor
