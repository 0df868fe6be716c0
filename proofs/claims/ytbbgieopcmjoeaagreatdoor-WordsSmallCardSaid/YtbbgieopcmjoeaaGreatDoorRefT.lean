/- The tokens of a text, found byte by byte: plain lists, no program in sight. -/
import Derived.Test.YtbbgieopcmjoeaaGreatDoorSeams
namespace Go.Proofs.YtbbgieopcmjoeaaGreatDoor
/-- What is known when the bytes ahead of place k have been read. -/
def TS (s : List UInt8) (k : Nat) (out : List (List UInt8)) (en : Bool) : Prop :=
  tokAll (pcs 0 (s.take k)) ([], false) = .inr (out, en) ∧ Seam (s.take k) (s.drop k) ∧ out.length ≤ k
theorem ts_zero (s : List UInt8) : TS s 0 [] false := ⟨rfl, .inr (.inr (by simp; decide)), by simp⟩
section
variable {s : List UInt8} {k : Nat} {out : List (List UInt8)} {en : Bool}
theorem ts_cut (_h : TS s k out en) (hk : k < s.length) : s = s.take k ++ s.drop k ∧ ∃ r, s.drop k = s.getD k 0 :: r := by
  refine ⟨(List.take_append_drop k s).symm, s.drop (k + 1), ?_⟩
  rw [List.drop_eq_getElem_cons hk]
  simp [hk]
theorem take_more (_h : k + spanLen (s.drop k) ≤ s.length) : s.take (k + spanLen (s.drop k)) = s.take k ++ (s.drop k).take (spanLen (s.drop k)) := by rw [List.take_add]
theorem span_fits (hk : k ≤ s.length) : k + spanLen (s.drop k) ≤ s.length := by
  have := spanLen_le (s.drop k)
  simp at this; omega
theorem ts_seam (h : TS s k out en) (hk : k < s.length) : Seam (s.take (k + spanLen (s.drop k))) (s.drop (k + spanLen (s.drop k))) ∧ Seam (s.take k) ((s.drop k).take (spanLen (s.drop k))) := by
  obtain ⟨-, r, hr⟩ := ts_cut h hk
  have h2 := h.2.1
  have hc := cut_seam (s.getD k 0) r
  rw [← hr] at hc
  have e := (List.take_append_drop (spanLen (s.drop k)) (s.drop k)).symm
  rw [e] at h2
  refine ⟨?_, seam_front h2⟩
  rw [take_more (span_fits (by omega)), ← List.drop_drop]
  exact seam_join h2 hc
theorem ts_pcs (h : TS s k out en) (hk : k < s.length) : pcs 0 (s.take (k + spanLen (s.drop k))) = pcs 0 (s.take k) ++ (if s.getD k 0 = 32 then [] else [(k, (s.drop k).take (spanLen (s.drop k)))]) := by
  obtain ⟨-, r, hr⟩ := ts_cut h hk
  rw [take_more (span_fits (by omega)), seam_pcs _ _ _ _ (Nat.le_refl _) (ts_seam h hk).2]
  congr 1
  have hl : (s.take k).length = k := by simp; omega
  rw [hl, Nat.zero_add, hr]
  exact pcs_cut k (s.getD k 0) r
theorem ts_blank (h : TS s k out en) (hk : k < s.length) (hb : s.getD k 0 = 32) : TS s (k + 1) out en := by
  obtain ⟨-, r, hr⟩ := ts_cut h hk
  have hs : spanLen (s.drop k) = 1 := by rw [hr, hb]; rfl
  have hp := ts_pcs h hk
  have hS := (ts_seam h hk).1
  rw [hs] at hp hS
  rw [if_pos hb, List.append_nil] at hp
  exact ⟨by rw [hp]; exact h.1, hS, by have := h.2.2; omega⟩
theorem ts_some (h : TS s k out en) (hk : k < s.length) (hb : s.getD k 0 ≠ 32) {st : List (List UInt8) × Bool} (hst : tokStep (out, en) ((s.drop k).take (spanLen (s.drop k))) = some st) : TS s (k + spanLen (s.drop k)) st.1 st.2 := by
  obtain ⟨-, r, hr⟩ := ts_cut h hk
  have hp := ts_pcs h hk
  rw [if_neg hb] at hp
  have h1 : 1 ≤ spanLen (s.drop k) := spanLen_pos (by rw [hr]; simp)
  have hlen : st.1.length = out.length + 1 := by
    unfold tokStep at hst
    split at hst
    · cases hst
    · have := Option.some.inj hst
      subst this; simp
  refine ⟨?_, (ts_seam h hk).1, by have := h.2.2; omega⟩
  rw [hp, tokAll_append, h.1]
  simp only [tokAll, hst]
theorem ts_none (h : TS s k out en) (hk : k < s.length) (hl : s.length ≤ 1000) (hb : s.getD k 0 ≠ 32) (hst : tokStep (out, en) ((s.drop k).take (spanLen (s.drop k))) = none) : tokensR s = ([], (k : Int), 332) := by
  obtain ⟨hs, r, hr⟩ := ts_cut h hk
  have hlk : (s.take k).length = k := by simp; omega
  have e : tokAll (pcs 0 s) ([], false) = .inl k := by
    rw [hs, seam_pcs _ _ _ _ (Nat.le_refl _) h.2.1, tokAll_append, h.1, hlk, hr, pcs_cons, if_neg hb, ← hr]
    simp only [List.cons_append, List.nil_append, tokAll, hst, Nat.zero_add]
  unfold tokensR
  rw [if_neg (by omega), pcs_of, e]
theorem ts_end (h : TS s s.length out en) (hl : s.length ≤ 1000) : tokensR s = if en then (out, 0, 0) else ([], (s.length : Int), 332) := by
  have h1 := h.1
  rw [List.take_length] at h1
  unfold tokensR
  rw [if_neg (by omega), pcs_of, h1]
theorem span_mark (hk : k < s.length) (hb : letU (s.getD k 0) = false) : spanLen (s.drop k) = 1 ∧ (s.drop k).take 1 = [s.getD k 0] := by
  have e : s.getD k 0 = s[k] := by simp [hk]
  rw [e] at hb ⊢
  exact ⟨by rw [List.drop_eq_getElem_cons hk]; simp [spanLen, hb], by rw [List.drop_eq_getElem_cons hk]; rfl⟩
theorem ts_err (h : TS s k out en) (hk : k < s.length) (hl : s.length ≤ 1000) (hb : s.getD k 0 ≠ 32)
    (hx : (en || (!letU (s.getD k 0) && ((s.getD k 0 != 44 && s.getD k 0 != 46) || out.isEmpty))) = true) : tokensR s = ([], (k : Int), 332) := by
  refine ts_none h hk hl hb ?_
  have hh : ((s.drop k).take (spanLen (s.drop k))).headD 0 = s.getD k 0 := by
    obtain ⟨-, r, hr⟩ := ts_cut h hk
    rw [(piece_head (by rw [hr]; simp)).1, hr]; rfl
  unfold tokStep
  rw [if_pos]
  rw [hh]
  cases en
  · cases hlt : letU (s.getD k 0)
    · obtain ⟨e1, e2⟩ := span_mark hk hlt
      rw [e1, e2]
      rw [hlt] at hx
      generalize s.getD k 0 = b at hx
      simp only [Bool.false_or, Bool.not_false, Bool.true_and, Bool.and_true] at hx ⊢
      have k1 : (!([b] == ([44] : List UInt8))) = (b != 44) := by rw [bne]; congr 1; rw [Bool.eq_iff_iff]; simp
      have k2 : (!([b] == ([46] : List UInt8))) = (b != 46) := by rw [bne]; congr 1; rw [Bool.eq_iff_iff]; simp
      rw [k1, k2]; exact hx
    · rw [hlt] at hx; simp at hx
  · simp
theorem ts_mark (h : TS s k out false) (hk : k < s.length) (hlt : letU (s.getD k 0) = false) (hb : (s.getD k 0 == 44) = true ∨ (s.getD k 0 == 46) = true) (ho : out.isEmpty = false) : TS s (k + 1) (out ++ [[s.getD k 0]]) (s.getD k 0 == 46) := by
  obtain ⟨e1, e2⟩ := span_mark hk hlt
  have hst : tokStep (out, false) [s.getD k 0] = some (out ++ [[s.getD k 0]], s.getD k 0 == 46) := by
    generalize s.getD k 0 = b at hb hlt
    rcases hb with hb | hb
    · obtain rfl := beq_iff_eq.1 hb
      unfold tokStep
      simp [ho]
    · obtain rfl := beq_iff_eq.1 hb
      unfold tokStep
      simp [ho]
  have hb32 : s.getD k 0 ≠ 32 := by
    rcases hb with hb | hb
    all_goals (have := beq_iff_eq.1 hb; rw [this]; decide)
  have := ts_some h hk hb32 (st := (out ++ [[s.getD k 0]], s.getD k 0 == 46)) (by rw [e1, e2]; exact hst)
  rw [e1] at this
  exact this
theorem ts_word (h : TS s k out false) (hk : k < s.length) (hlt : letU (s.getD k 0) = true) {t w : List UInt8} (ht : (s.drop k).take (spanLen (s.drop k)) = t) (hw : (if out.isEmpty && isFn (lowL t) then lowL t else t) = w) : TS s (k + spanLen (s.drop k)) (out ++ [w]) false := by
  have hh : t.headD 0 = s.getD k 0 := by
    obtain ⟨-, r, hr⟩ := ts_cut h hk
    rw [← ht, (piece_head (by rw [hr]; simp)).1, hr]; rfl
  have hb32 : s.getD k 0 ≠ 32 := by intro e; rw [e] at hlt; exact absurd hlt (by decide)
  have hw46 : (w == [46]) = false := by
    have hl2 : letU (w.headD 0) = true := by
      rw [← hw]
      split
      · cases t with
        | nil => rw [← hh] at hlt; exact absurd hlt (by decide)
        | cons c r =>
          have hc : letU c = true := by rw [← hh] at hlt; exact hlt
          show letU (lowU c) = true
          have key : ∀ n : Fin 256, letU (UInt8.ofNat n.val) = true → letU (lowU (UInt8.ofNat n.val)) = true := by decide +kernel
          have := key ⟨c.toNat, c.toNat_lt⟩
          simp only [UInt8.ofNat_toNat] at this
          exact this hc
      · rw [hh]; exact hlt
    rw [beq_eq_false_iff_ne]; intro e
    rw [e] at hl2; exact absurd hl2 (by decide)
  have hst : tokStep (out, false) t = some (out ++ [w], false) := by
    unfold tokStep
    rw [if_neg (by rw [hh, hlt]; simp)]
    simp only [hw, hw46]
  exact ts_some h hk hb32 (st := (out ++ [w], false)) (by rw [ht]; exact hst)
end
end Go.Proofs.YtbbgieopcmjoeaaGreatDoor
