/- WordsBack: what the law asks of tokens and texts: plain lists, no program in sight. -/
import Derived.Test.YtbbgieopcmjoeaaGreatDoorLawPlace
namespace Go.Proofs.YtbbgieopcmjoeaaGreatDoor
theorem wordL_ne {t : List UInt8} (h : wordL t = true) : t ≠ [] ∧ t.all letU = true ∧ letU (t.headD 0) = true ∧ (t == [44]) = false ∧ (t == [46]) = false := by
  have ha := wordL_all h
  cases t with
  | nil => cases h
  | cons b r =>
    have hb : letU b = true := by rw [List.all_cons, Bool.and_eq_true] at ha; exact ha.1
    refine ⟨by simp, ha, hb, ?_, ?_⟩
    all_goals
      rw [beq_eq_false_iff_ne]; intro e
      have e1 := (List.cons.inj e).1
      subst e1
      exact absurd hb (by decide)
theorem word_of {t : List UInt8} (h1 : t ≠ []) (h2 : t.all letU = true) : wordL t = true := by
  unfold wordL; rw [h2]; cases t with
  | nil => exact absurd rfl h1
  | cons => rfl
theorem letU_low : ∀ b : UInt8, letU b = true → letU (lowU b) = true := by
  have h : ∀ n : Fin 256, letU (UInt8.ofNat n.val) = true → letU (lowU (UInt8.ofNat n.val)) = true := by decide +kernel
  intro b hb
  have := h ⟨b.toNat, b.toNat_lt⟩
  simp only [UInt8.ofNat_toNat] at this
  exact this hb
theorem word_low {t : List UInt8} (h : wordL t = true) : wordL (lowL t) = true := by
  obtain ⟨h1, h2, -⟩ := wordL_ne h
  refine word_of (by unfold lowL; simpa using h1) ?_
  rw [List.all_eq_true] at h2 ⊢
  intro b hb
  obtain ⟨c, hc, rfl⟩ := List.mem_map.1 hb
  exact letU_low c (h2 c hc)
/-- What the tokens so far look like. -/
def Good (out : List (List UInt8)) (en : Bool) : Prop :=
  (out = [] ∧ en = false) ∨ ∃ t r, out = t :: r ∧ wordL t = true ∧ (isFn t || !isFn (lowL t)) = true ∧ (∀ x ∈ r, tokOk x = true) ∧
    ((en = false ∧ ∀ x ∈ r, (x == [46]) = false) ∨ (en = true ∧ ∃ r', r = r' ++ [[46]] ∧ ∀ x ∈ r', (x == [46]) = false))
def okP (t : List UInt8) : Prop := wordL t = true ∨ (letU (t.headD 0) = false ∧ t = [t.headD 0])
theorem good_step {out : List (List UInt8)} {en : Bool} {t : List UInt8} (h : Good out en) (ht : okP t) {st : List (List UInt8) × Bool} (hs : tokStep (out, en) t = some st) : Good st.1 st.2 := by
  unfold tokStep at hs
  split at hs
  · cases hs
  · rename_i hc
    have hst := Option.some.inj hs
    subst hst
    rcases h with ⟨rfl, rfl⟩ | ⟨t0, r, rfl, h1, h2, h3, h4⟩
    · have hl : letU (t.headD 0) = true := by
        cases hl : letU (t.headD 0)
        · rw [hl] at hc; simp at hc
        · rfl
      have hw : wordL t = true := by
        rcases ht with ht | ⟨ht, -⟩
        · exact ht
        · rw [ht] at hl; cases hl
      right
      cases hf : isFn (lowL t)
      · refine ⟨t, [], by simp, hw, by rw [hf]; simp, fun x hx => (by cases hx), .inl ⟨?_, fun x hx => (by cases hx)⟩⟩
        simp [(wordL_ne hw).2.2.2.2]
      · refine ⟨lowL t, [], by simp, word_low hw, by rw [hf]; rfl, fun x hx => (by cases hx), .inl ⟨?_, fun x hx => (by cases hx)⟩⟩
        simp [(wordL_ne (word_low hw)).2.2.2.2]
    · rcases h4 with ⟨rfl, h4⟩ | ⟨rfl, -⟩
      · right
        have hok : tokOk t = true := by
          unfold tokOk
          rcases ht with ht | ⟨ht, -⟩
          · rw [ht]; simp
          · rw [ht] at hc
            cases k1 : (t == [44]) <;> cases k2 : (t == [46]) <;> simp_all
        refine ⟨t0, r ++ [t], by simp, h1, h2, fun x hx => ?_, ?_⟩
        · rcases List.mem_append.1 hx with hx | hx
          · exact h3 x hx
          · obtain rfl := List.mem_singleton.1 hx; exact hok
        · cases hd : (t == [46])
          · left
            refine ⟨by simp [hd], fun x hx => ?_⟩
            rcases List.mem_append.1 hx with hx | hx
            · exact h4 x hx
            · obtain rfl := List.mem_singleton.1 hx; exact hd
          · right
            exact ⟨by simp [hd], r, by rw [beq_iff_eq.1 hd], h4⟩
      · simp at hc
theorem good_all : ∀ (ps : List (Nat × List UInt8)) (out : List (List UInt8)) (en : Bool) (st : List (List UInt8) × Bool), Good out en → (∀ p ∈ ps, okP p.2) → tokAll ps (out, en) = .inr st → Good st.1 st.2
  | [], out, en, st, h, _, hs => by
    have := Sum.inr.inj (show Sum.inr (out, en) = (Sum.inr st : Nat ⊕ _) from hs)
    subst this; exact h
  | p :: r, out, en, st, h, hp, hs => by
    simp only [tokAll] at hs
    cases hk : tokStep (out, en) p.2 with
    | none => rw [hk] at hs; cases hs
    | some st' =>
      rw [hk] at hs
      obtain ⟨o', e'⟩ := st'
      exact good_all r o' e' st (good_step h (hp p (by simp)) hk) (fun q hq => hp q (by simp [hq])) hs
theorem okP_piece {q : List UInt8} (h : q ≠ []) : okP (q.take (spanLen q)) := by
  obtain ⟨h1, h2⟩ := piece_head h
  cases hl : letU (q.headD 0)
  · right
    rw [h1]
    exact ⟨hl, h2 hl⟩
  · left
    cases q with
    | nil => exact absurd rfl h
    | cons b r =>
      have hb : letU b = true := hl
      have e : spanLen (b :: r) = (r.takeWhile letU).length + 1 := by simp [spanLen, hb]; omega
      rw [e, List.take_succ_cons]
      refine word_of (by simp) ?_
      have hp : r.take (r.takeWhile letU).length = r.takeWhile letU := List.prefix_iff_eq_take.1 (List.takeWhile_prefix letU) |>.symm
      rw [hp, List.all_cons, hb, Bool.true_and, List.all_eq_true]
      intro x hx
      exact List.all_eq_true.1 List.all_takeWhile x hx
theorem pcs_ok : ∀ (n : Nat) (s : List UInt8) (a : Nat), s.length ≤ n → ∀ p ∈ pcs a s, okP p.2
  | _, [], a, _, p, hp => by rw [pcs_nil] at hp; cases hp
  | 0, _ :: _, _, hn, _, _ => by simp at hn
  | n + 1, b :: r, a, hn, p, hp => by
    have h1 := spanLen_pos (s := b :: r) (by simp)
    rw [pcs_cons] at hp
    rcases List.mem_append.1 hp with hp | hp
    · split at hp
      · cases hp
      · obtain rfl := List.mem_singleton.1 hp
        exact okP_piece (by simp)
    · exact pcs_ok n _ _ (by simp at hn ⊢; omega) p hp
theorem tokens_good {s : List UInt8} {l : List (List UInt8)} (h : tokensR s = (l, 0, 0)) : s.length ≤ 1000 ∧ Good l true := by
  unfold tokensR at h
  split at h
  · simp at h
  · refine ⟨by omega, ?_⟩
    cases hT : tokAll (piecesOf s) ([], false) with
    | inl b =>
      rw [hT] at h
      have h' : (([] : List (List UInt8)), (b : Int), (332 : Int)) = (l, 0, 0) := h
      simp at h'
    | inr st =>
      rw [hT] at h
      have h' : (if st.2 then (st.1, (0 : Int), (0 : Int)) else (([] : List (List UInt8)), (s.length : Int), (332 : Int))) = (l, 0, 0) := h
      have hg := good_all _ _ _ st (.inl ⟨rfl, rfl⟩) (fun p hp => pcs_ok s.length s 0 (Nat.le_refl _) p hp) hT
      cases h2 : st.2
      · rw [h2] at h'; simp at h'
      · rw [h2] at h' hg
        have : st.1 = l := (Prod.mk.inj h').1
        rw [← this]; exact hg
theorem good_shape {l : List (List UInt8)} (h : Good l true) : shapeL l = true := by
  rcases h with ⟨-, h⟩ | ⟨t, r, rfl, h1, h2, h3, ⟨h4, -⟩ | ⟨-, r', rfl, h5⟩⟩
  · cases h
  · cases h4
  · have hd : dotAt (t :: (r' ++ [[46]])) = r'.length + 1 := by
      unfold dotAt
      refine firstIdx_eq _ _ _ (by simp) (fun i hi => ?_) (fun _ => ?_)
      · cases i with
        | zero => simp [atT, (wordL_ne h1).2.2.2.2]
        | succ i =>
          have hi' : i < r'.length := by omega
          have := h5 _ (List.getElem_mem hi')
          simpa [atT, List.getElem?_append, hi'] using this
      · simp [atT]
    show (wordL t && ((isFn t || !isFn (lowL t)) && (((dotAt (t :: (r' ++ [[46]])) : Int) == ((t :: (r' ++ [[46]])).length : Int) - 1) && (t :: (r' ++ [[46]])).all tokOk))) = true
    rw [h1, h2, hd]
    have h6 : (t :: (r' ++ [[46]])).all tokOk = true := by
      rw [List.all_eq_true]
      intro x hx
      rcases List.mem_cons.1 hx with rfl | hx
      · unfold tokOk; rw [h1]; simp
      · exact h3 x hx
    rw [h6]
    simp
theorem pcs_len : ∀ (n : Nat) (s : List UInt8) (a : Nat), s.length ≤ n → ∀ p ∈ pcs a s, p.2.length ≤ s.length
  | _, [], a, _, p, hp => by rw [pcs_nil] at hp; cases hp
  | 0, _ :: _, _, hn, _, _ => by simp at hn
  | n + 1, b :: r, a, hn, p, hp => by
    have h1 := spanLen_pos (s := b :: r) (by simp)
    rw [pcs_cons] at hp
    rcases List.mem_append.1 hp with hp | hp
    · split at hp
      · cases hp
      · obtain rfl := List.mem_singleton.1 hp
        simp only [List.length_take]; omega
    · have := pcs_len n _ _ (by simp at hn ⊢; omega) p hp
      simp only [List.length_drop] at this; omega
theorem step_bound {m : Nat} {st st' : List (List UInt8) × Bool} {t : List UInt8} (h : tokStep st t = some st') (hs : ∀ x ∈ st.1, x.length ≤ m) (ht : t.length ≤ m) : st'.1.length = st.1.length + 1 ∧ ∀ x ∈ st'.1, x.length ≤ m := by
  unfold tokStep at h
  split at h
  · cases h
  · have h' := Option.some.inj h
    subst h'
    refine ⟨by simp, fun x hx => ?_⟩
    rcases List.mem_append.1 hx with hx | hx
    · exact hs x hx
    · obtain rfl := List.mem_singleton.1 hx
      split
      · unfold lowL; simpa using ht
      · exact ht
theorem all_bound {m : Nat} : ∀ (ps : List (Nat × List UInt8)) (st st' : List (List UInt8) × Bool), tokAll ps st = .inr st' → (∀ x ∈ st.1, x.length ≤ m) → (∀ p ∈ ps, p.2.length ≤ m) → st'.1.length = st.1.length + ps.length ∧ ∀ x ∈ st'.1, x.length ≤ m
  | [], st, st', h, hs, _ => by
    have := Sum.inr.inj (show Sum.inr st = (Sum.inr st' : Nat ⊕ _) from h)
    subst this; exact ⟨by simp, hs⟩
  | p :: r, st, st', h, hs, hp => by
    simp only [tokAll] at h
    cases hk : tokStep st p.2 with
    | none => rw [hk] at h; cases h
    | some st2 =>
      rw [hk] at h
      obtain ⟨h1, h2⟩ := step_bound hk hs (hp p (by simp))
      obtain ⟨h3, h4⟩ := all_bound r st2 st' h h2 (fun q hq => hp q (by simp [hq]))
      exact ⟨by rw [h3, h1]; simp; omega, h4⟩
theorem tokens_bound {s : List UInt8} {l : List (List UInt8)} (h : tokensR s = (l, 0, 0)) : l.length ≤ 1000 ∧ ∀ t ∈ l, t.length ≤ 1000 := by
  obtain ⟨hs, -⟩ := tokens_good h
  rw [tokens_eq hs] at h
  cases hT : tokAll (pcs 0 s) ([], false) with
  | inl b =>
    rw [hT] at h
    have h' : (([] : List (List UInt8)), (b : Int), (332 : Int)) = (l, 0, 0) := h
    simp at h'
  | inr st =>
    rw [hT] at h
    have h' : (if st.2 then (st.1, (0 : Int), (0 : Int)) else (([] : List (List UInt8)), (s.length : Int), (332 : Int))) = (l, 0, 0) := h
    obtain ⟨h3, h4⟩ := all_bound (m := 1000) _ _ _ hT (fun x hx => by cases hx) (fun p hp => Nat.le_trans (pcs_len s.length s 0 (Nat.le_refl _) p hp) hs)
    have h5 : (pcs 0 s).length ≤ s.length := piecesL_length _ _ _
    cases h2 : st.2
    · rw [h2] at h'; simp at h'
    · rw [h2] at h'
      have e : st.1 = l := (Prod.mk.inj h').1
      rw [← e]
      exact ⟨by rw [h3]; simp; omega, h4⟩
end Go.Proofs.YtbbgieopcmjoeaaGreatDoor
