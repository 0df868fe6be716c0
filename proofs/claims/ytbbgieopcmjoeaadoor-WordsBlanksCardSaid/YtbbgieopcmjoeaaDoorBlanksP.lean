/- WordsBlanks: blanks around tokens change nothing: plain lists, no program in sight. -/
import Derived.Test.YtbbgieopcmjoeaaDoorBackQ
namespace Go.Proofs.YtbbgieopcmjoeaaDoor
def bl (n : Nat) : List UInt8 := List.replicate n 32
theorem pcs_bl : ∀ (n a : Nat) (q : List UInt8), pcs a (bl n ++ q) = pcs (a + n) q
  | 0, a, q => by simp [bl]
  | n + 1, a, q => by
    have e : bl (n + 1) ++ q = 32 :: (bl n ++ q) := by simp [bl, List.replicate_succ]
    rw [e, pcs_cons]
    have h0 : letU 32 = false := by decide
    have h1 : spanLen (32 :: (bl n ++ q)) = 1 := by simp [spanLen, h0]
    rw [h1]
    simp only [if_true, List.nil_append, List.drop_succ_cons, List.drop_zero]
    rw [pcs_bl n (a + 1) q]
    congr 1
    omega
theorem pcs_tok {t : List UInt8} (h : tokOk t = true) (a : Nat) : pcs a t = [(a, t)] := by
  rcases tok_cases h with rfl | rfl | hw
  · rfl
  · rfl
  · exact pcs_word hw a
def tokAt (l : List (List UInt8)) (i : Nat) : List UInt8 := l.getD i []
/-- How many blanks: as the code finds it. -/
def blC (l : List (List UInt8)) (k n : Nat) : Nat := if 0 < k ∧ n = 0 ∧ tokAt l k ≠ [44] ∧ tokAt l k ≠ [46] ∧ tokAt l (k - 1) ≠ [44] then 1 else n
/-- How many blanks stand ahead of token i. -/
def blN (l : List (List UInt8)) (bs : List UInt8) (i : Nat) : Nat := blC l i (if i < bs.length then (bs.getD i 0).toNat % 4 else 1)
theorem blN_eq {l : List (List UInt8)} {bs : List UInt8} {k n : Nat} (h : (if k < bs.length then (bs.getD k 0).toNat % 4 else 1) = n) : blN l bs k = blC l k n := by
  unfold blN; rw [h]
def txtB (l : List (List UInt8)) (bs : List UInt8) : Nat → List UInt8
  | 0 => []
  | k + 1 => txtB l bs k ++ (bl (blN l bs k) ++ tokAt l k)
theorem blN_le (l : List (List UInt8)) (bs : List UInt8) (i : Nat) : blN l bs i ≤ 3 := by
  have h : (if i < bs.length then (bs.getD i 0).toNat % 4 else 1) ≤ 3 := by split <;> omega
  unfold blN blC
  generalize (if i < bs.length then (bs.getD i 0).toNat % 4 else 1) = n at h
  split <;> omega
def totL (l : List (List UInt8)) : Nat := (l.map List.length).sum
theorem totL_append (a b : List (List UInt8)) : totL (a ++ b) = totL a + totL b := by simp [totL]
theorem tok_at {l : List (List UInt8)} {k : Nat} (hk : k < l.length) : tokAt l k = l[k] := by simp [tokAt, hk]
theorem txt_len (l : List (List UInt8)) (bs : List UInt8) : ∀ k, k ≤ l.length → (txtB l bs k).length ≤ totL (l.take k) + 3 * k
  | 0, _ => by simp [txtB]
  | k + 1, hk => by
    have ih := txt_len l bs k (by omega)
    have hn := blN_le l bs k
    have hlt : k < l.length := by omega
    rw [List.take_succ_eq_append_getElem hlt, totL_append]
    simp only [txtB, bl, List.length_append, List.length_replicate, tok_at hlt]
    simp [totL]
    simp [totL] at ih
    omega
theorem last_getD (p : List UInt8) (q : List UInt8) (hq : q ≠ []) : (p ++ q).getLast?.getD 0 = q.getLast?.getD 0 := by
  cases q with
  | nil => exact absurd rfl hq
  | cons c r => simp [List.getLast?_append, List.getLast?_cons]
theorem pcs_txt (l : List (List UInt8)) (bs : List UInt8) (hl : ∀ t ∈ l, tokOk t = true) (hd : ∀ i, i + 1 < l.length → tokAt l i ≠ [46]) : ∀ k, k ≤ l.length → (pcs 0 (txtB l bs k)).map (·.2) = l.take k
  | 0, _ => rfl
  | k + 1, hk => by
    have ih := pcs_txt l bs hl hd k (by omega)
    have hlt : k < l.length := by omega
    have ht := hl _ (List.getElem_mem hlt)
    have e : tokAt l k = l[k] := tok_at hlt
    have hS : Seam (txtB l bs k) (bl (blN l bs k) ++ tokAt l k) := by
      cases hn : blN l bs k with
      | succ n => right; left; simp [bl, List.replicate_succ]; decide
      | zero =>
        rw [e]
        show Seam _ ([] ++ l[k])
        rw [List.nil_append]
        cases k with
        | zero => right; right; simp [txtB]; decide
        | succ k =>
          rcases tok_cases ht with h | h | hw
          · right; left; rw [h]; decide
          · right; left; rw [h]; decide
          · right; right
            have hp : tokAt l k = [44] := by
              by_cases hp : tokAt l k = [44]
              · exact hp
              · exfalso
                obtain ⟨-, -, -, g1, g2⟩ := wordL_ne hw
                have g1' : l[k + 1] ≠ [44] := by simpa using g1
                have g2' : l[k + 1] ≠ [46] := by simpa using g2
                unfold blN blC at hn
                generalize (if k + 1 < bs.length then (bs.getD (k + 1) 0).toNat % 4 else 1) = n at hn
                rw [e] at hn
                split at hn
                · cases hn
                · rename_i hc
                  exact hc ⟨by omega, hn, g1', g2', hp⟩
            have e2 : txtB l bs (k + 1) = (txtB l bs k ++ bl (blN l bs k)) ++ [44] := by simp only [txtB, hp, List.append_assoc]
            rw [e2, last_getD _ _ (by simp)]
            decide
    have e3 : txtB l bs (k + 1) = txtB l bs k ++ (bl (blN l bs k) ++ tokAt l k) := rfl
    rw [e3, seam_pcs _ _ _ _ (Nat.le_refl _) hS, List.map_append, ih, pcs_bl, e, pcs_tok ht, List.take_succ_eq_append_getElem hlt]
    rfl
theorem tot_pcs : ∀ (n : Nat) (s : List UInt8) (a : Nat), s.length ≤ n → totL ((pcs a s).map (·.2)) ≤ s.length
  | _, [], a, _ => by simp [pcs_nil, totL]
  | 0, _ :: _, _, hn => by simp at hn
  | n + 1, b :: r, a, hn => by
    have h1 := spanLen_pos (s := b :: r) (by simp)
    have h2 := spanLen_le (b :: r)
    have ih := tot_pcs n ((b :: r).drop (spanLen (b :: r))) (a + spanLen (b :: r)) (by simp at hn ⊢; omega)
    rw [pcs_cons, List.map_append, totL_append]
    simp only [List.length_drop] at ih
    split
    · simp [totL] at ih ⊢; omega
    · have : totL (([(a, (b :: r).take (spanLen (b :: r)))] : List (Nat × List UInt8)).map (·.2)) = spanLen (b :: r) := by
        simp only [totL, List.map_cons, List.map_nil, List.sum_cons, List.sum_nil, List.length_take]; omega
      omega
theorem tot_mem {l : List (List UInt8)} {t : List UInt8} (h : t ∈ l) : t.length ≤ totL l := by
  induction l with
  | nil => cases h
  | cons a r ih =>
    simp only [totL, List.map_cons, List.sum_cons] at ih ⊢
    rcases List.mem_cons.1 h with rfl | h
    · omega
    · have := ih h; omega
theorem tot_take (l : List (List UInt8)) (k : Nat) : totL (l.take k) ≤ totL l := by
  have := totL_append (l.take k) (l.drop k)
  rw [List.take_append_drop] at this
  omega
theorem step_tot {st st' : List (List UInt8) × Bool} {t : List UInt8} (h : tokStep st t = some st') : totL st'.1 = totL st.1 + t.length := by
  unfold tokStep at h
  split at h
  · cases h
  · have h' := Option.some.inj h
    subst h'
    rw [totL_append]
    congr 1
    split <;> simp [totL, lowL]
theorem all_tot : ∀ (ps : List (Nat × List UInt8)) (st st' : List (List UInt8) × Bool), tokAll ps st = .inr st' → totL st'.1 = totL st.1 + totL (ps.map (·.2))
  | [], st, st', h => by
    have := Sum.inr.inj (show Sum.inr st = (Sum.inr st' : Nat ⊕ _) from h)
    subst this; simp [totL]
  | p :: r, st, st', h => by
    simp only [tokAll] at h
    cases hk : tokStep st p.2 with
    | none => rw [hk] at h; cases h
    | some st2 =>
      rw [hk] at h
      have h1 := step_tot hk
      have h2 := all_tot r st2 st' h
      simp [totL] at h1 h2 ⊢
      omega
theorem step_count {st st' : List (List UInt8) × Bool} {t : List UInt8} (h : tokStep st t = some st') : st'.1.length = st.1.length + 1 := by
  unfold tokStep at h
  split at h
  · cases h
  · have h' := Option.some.inj h
    subst h'
    simp
theorem all_count : ∀ (ps : List (Nat × List UInt8)) (st st' : List (List UInt8) × Bool), tokAll ps st = .inr st' → st'.1.length = st.1.length + ps.length
  | [], st, st', h => by
    have := Sum.inr.inj (show Sum.inr st = (Sum.inr st' : Nat ⊕ _) from h)
    subst this; simp
  | p :: r, st, st', h => by
    simp only [tokAll] at h
    cases hk : tokStep st p.2 with
    | none => rw [hk] at h; cases h
    | some st2 =>
      rw [hk] at h
      have h1 := step_count hk
      have h2 := all_count r st2 st' h
      simp; omega
theorem tokens_tot {s : List UInt8} {l : List (List UInt8)} (h : tokensR s = (l, 0, 0)) : totL l ≤ s.length ∧ l.length ≤ s.length := by
  obtain ⟨hs, -⟩ := tokens_good h
  rw [tokens_eq hs] at h
  cases hT : tokAll (pcs 0 s) ([], false) with
  | inl b =>
    rw [hT] at h
    have h' : (([] : List (List UInt8)), (b : Int), (332 : Int)) = (l, 0, 0) := h
    simp at h'
  | inr st =>
    rw [hT] at h
    have h' : (if st.2 then (st.1, (0 : Int), (0 : Int)) else (([] : List (List UInt8)), (s.length : Int), (332 : Int))) = (l, 0, 0) := h
    have h3 := all_tot _ _ _ hT
    have h4 := tot_pcs s.length s 0 (Nat.le_refl _)
    have h5 : (pcs 0 s).length ≤ s.length := piecesL_length _ _ _
    have h6 := all_count _ _ _ hT
    cases h2 : st.2
    · rw [h2] at h'; simp at h'
    · rw [h2] at h'
      have e : st.1 = l := (Prod.mk.inj h').1
      rw [← e]
      refine ⟨?_, by rw [h6]; simpa using h5⟩
      rw [h3]; simp [totL] at h4 ⊢; omega
theorem low_fn : ∀ t ∈ fwL, lowL t = t := by decide +kernel
theorem first_step {t : List UInt8} (h1 : wordL t = true) (h2 : (isFn t || !isFn (lowL t)) = true) : tokStep ([], false) t = some ([t], false) := by
  have k2 : (if isFn (lowL t) then lowL t else t) = t := by
    cases hf : isFn t
    · rw [hf] at h2
      have hl : isFn (lowL t) = false := by simpa using h2
      rw [hl]; rfl
    · have hm : t ∈ fwL := by unfold isFn at hf; exact List.contains_iff_mem.1 hf
      rw [low_fn t hm, hf]; rfl
  unfold tokStep
  have hl := (wordL_ne h1).2.2.1
  simp only [hl, List.isEmpty_nil, Bool.true_and, Bool.not_true, Bool.false_and, Bool.and_false, Bool.or_false, k2, List.nil_append, (wordL_ne h1).2.2.2.2]
  rfl
/-- Tokens with blanks between them are these tokens. -/
theorem blank_tokens {l : List (List UInt8)} (h : Good l true) (bs : List UInt8) (m : Nat) (hlen : (txtB l bs l.length ++ bl m).length ≤ 1000) : tokensR (txtB l bs l.length ++ bl m) = (l, 0, 0) := by
  rcases h with ⟨-, h⟩ | ⟨t, r, rfl, h1, h2, h3, ⟨h4, -⟩ | ⟨-, r', rfl, h5⟩⟩
  · cases h
  · cases h4
  · have hall : ∀ x ∈ t :: (r' ++ [[46]]), tokOk x = true := by
      intro x hx
      rcases List.mem_cons.1 hx with rfl | hx
      · unfold tokOk; rw [h1]; simp
      · exact h3 x hx
    have hdot : ∀ i, i + 1 < (t :: (r' ++ [[46]])).length → tokAt (t :: (r' ++ [[46]])) i ≠ [46] := by
      intro i hi
      cases i with
      | zero => have := (wordL_ne h1).2.2.2.2; simpa [tokAt] using this
      | succ i =>
        have hi' : i < r'.length := by simp at hi; omega
        have := h5 _ (List.getElem_mem hi')
        simpa [tokAt, List.getElem?_append, hi'] using this
    have hS : Seam (txtB (t :: (r' ++ [[46]])) bs (t :: (r' ++ [[46]])).length) (bl m) := by
      cases m with
      | zero => left; rfl
      | succ m => right; left; simp [bl, List.replicate_succ]; decide
    have hp := pcs_txt _ bs hall hdot _ (Nat.le_refl _)
    rw [tokens_eq hlen]
    have e : tokAll (pcs 0 (txtB (t :: (r' ++ [[46]])) bs (t :: (r' ++ [[46]])).length ++ bl m)) ([], false) = .inr (t :: (r' ++ [[46]]), true) := by
      apply tokAll_T
      have e0 : pcs (0 + (txtB (t :: (r' ++ [[46]])) bs (t :: (r' ++ [[46]])).length).length) (bl m) = [] := by
        have := pcs_bl m (0 + (txtB (t :: (r' ++ [[46]])) bs (t :: (r' ++ [[46]])).length).length) []
        rw [List.append_nil, pcs_nil] at this
        exact this
      rw [seam_pcs _ _ _ _ (Nat.le_refl _) hS, List.map_append, hp, e0, List.take_length]
      simp only [List.map_nil, List.append_nil, tokT, first_step h1 h2]
      exact tokT_rest r' [t] (by simp) (fun x hx => h3 x (by simp [hx])) h5
    rw [e]; rfl
end Go.Proofs.YtbbgieopcmjoeaaDoor
