/- WordsTells: what the reference answers of lexicons is what the program answers: plain lists, no program in sight. -/
import Derived.Test.YtbbgieopcmjoeaaGreatDoorAddsP
namespace Go.Proofs.YtbbgieopcmjoeaaGreatDoor
theorem cmpB_zero : ∀ a b : List UInt8, Lib.compareBytes a b = 0 → a = b
  | [], [], _ => rfl
  | [], _ :: _, h => by simp [Lib.compareBytes] at h
  | _ :: _, [], h => by simp [Lib.compareBytes] at h
  | x :: a, y :: b, h => by
    simp only [Lib.compareBytes] at h
    split at h
    · simp at h
    · split at h
      · simp at h
      · rename_i h1 h2
        have hxy : x = y := UInt8.toNat_inj.1 (Nat.le_antisymm (Nat.le_of_not_lt h2) (Nat.le_of_not_lt h1))
        rw [hxy, cmpB_zero a b h]
theorem cmpB_trans : ∀ a b c : List UInt8, Lib.compareBytes a b < 0 → Lib.compareBytes b c < 0 → Lib.compareBytes a c < 0
  | [], [], _, h, _ => by simp [Lib.compareBytes] at h
  | [], _ :: _, [], _, h => by simp [Lib.compareBytes] at h
  | [], _ :: _, _ :: _, _, _ => by simp [Lib.compareBytes]
  | _ :: _, [], _, h, _ => by simp [Lib.compareBytes] at h
  | _ :: _, _ :: _, [], _, h => by simp [Lib.compareBytes] at h
  | x :: a, y :: b, z :: c, h1, h2 => by
    simp only [Lib.compareBytes] at h1 h2 ⊢
    rcases Nat.lt_trichotomy x.toNat y.toNat with h | h | h
    · have hxy : x < y := h
      rcases Nat.lt_trichotomy y.toNat z.toNat with k | k | k
      · have : x < z := Nat.lt_trans h k
        simp [this]
      · obtain rfl : y = z := UInt8.toNat_inj.1 k
        simp [hxy]
      · have k1 : z < y := k
        have k2 : ¬ y < z := fun h' => Nat.lt_asymm k h'
        simp [k1, k2] at h2
    · obtain rfl : x = y := UInt8.toNat_inj.1 h
      rcases Nat.lt_trichotomy x.toNat z.toNat with k | k | k
      · have : x < z := k
        simp [this]
      · obtain rfl : x = z := UInt8.toNat_inj.1 k
        simp only [UInt8.lt_irrefl, if_false] at h1 h2 ⊢
        exact cmpB_trans a b c h1 h2
      · have k1 : z < x := k
        have k2 : ¬ x < z := fun h' => Nat.lt_asymm k h'
        simp [k1, k2] at h2
    · have k1 : y < x := h
      have k2 : ¬ x < y := fun h' => Nat.lt_asymm h h'
      simp [k1, k2] at h1
theorem cmpL_zero (a b : Ent) : cmpL a b = 0 ↔ isE b.1 b.2.1 a = true := by
  unfold cmpL isE
  cases h : (a.1 == b.1)
  · simp only [Bool.false_and, Bool.false_eq_true, if_false, iff_false]
    intro h0
    have := cmpB_zero _ _ h0
    rw [this] at h; simp at h
  · simp only [if_true, Bool.true_and, beq_iff_eq]
    rw [← UInt8.toNat_inj]; omega
theorem cmpL_trans (a b c : Ent) (h1 : cmpL a b < 0) (h2 : cmpL b c < 0) : cmpL a c < 0 := by
  unfold cmpL at *
  cases hab : (a.1 == b.1) <;> cases hbc : (b.1 == c.1)
  · rw [hab] at h1; rw [hbc] at h2
    simp only [Bool.false_eq_true, if_false] at h1 h2
    have h3 := cmpB_trans _ _ _ h1 h2
    have hac : (a.1 == c.1) = false := by
      cases h : (a.1 == c.1)
      · rfl
      · rw [beq_iff_eq.1 h, cmpB_self] at h3; omega
    rw [hac]; simpa using h3
  · rw [hab] at h1
    simp only [Bool.false_eq_true, if_false] at h1
    have e := beq_iff_eq.1 hbc
    rw [← e, hab]; simpa using h1
  · rw [hbc] at h2
    simp only [Bool.false_eq_true, if_false] at h2
    have e := beq_iff_eq.1 hab
    rw [e, hbc]; simpa using h2
  · rw [hab] at h1; rw [hbc] at h2
    simp only [if_true] at h1 h2
    have e := beq_iff_eq.1 hab
    rw [e, hbc]; simp only [if_true]; omega
theorem valid_sorted {l : List Ent} (hv : validL l = true) : ∀ d i (h : i + d + 1 < l.length), cmpL (l[i]'(by omega)) (l[i + d + 1]) < 0
  | 0, i, h => by
    obtain ⟨_, h2⟩ := (valid_iff l).1 hv
    obtain ⟨_, h3, _⟩ := h2 (i + 1) (by omega)
    rcases h3 with h3 | h3
    · omega
    · have e : l.getD (i + 1 - 1) dE = l[i]'(by omega) := by simp; rw [List.getElem?_eq_getElem (by omega)]; rfl
      rw [e] at h3; exact h3
  | d + 1, i, h => by
    have ih := valid_sorted hv d i (by omega)
    obtain ⟨_, h2⟩ := (valid_iff l).1 hv
    obtain ⟨_, h3, _⟩ := h2 (i + d + 1 + 1) (by omega)
    rcases h3 with h3 | h3
    · omega
    · have e : l.getD (i + d + 1 + 1 - 1) dE = l[i + d + 1]'(by omega) := by simp; rw [List.getElem?_eq_getElem (by omega)]; rfl
      rw [e] at h3
      exact cmpL_trans _ _ _ ih h3
/-- Where an entry of the same word and kind stands. -/
def twE (e o : Ent) : Bool := isE e.1 e.2.1 o
theorem at_twice {l : List Ent} {e : Ent} (hv : validL l = true) : (atL l e < l.length ∧ cmpL (l.getD (atL l e) dE) e = 0) ↔ (l.any (twE e)) = true := by
  obtain ⟨k1, k2⟩ := firstIdx_spec (fun i => geL e (l.getD i dE)) l.length
  have hk : firstIdx (fun i => geL e (l.getD i dE)) l.length = atL l e := rfl
  rw [hk] at k1 k2
  constructor
  · rintro ⟨h1, h2⟩
    rw [List.any_eq_true]
    have e1 : l.getD (atL l e) dE = l[atL l e] := by simp [h1]
    rw [e1] at h2
    exact ⟨_, List.getElem_mem h1, (cmpL_zero _ _).1 h2⟩
  · intro h
    obtain ⟨o, ho, hq⟩ := List.any_eq_true.1 h
    obtain ⟨i, hi, rfl⟩ := List.getElem_of_mem ho
    have h0 : cmpL l[i] e = 0 := (cmpL_zero _ _).2 hq
    have hle : atL l e ≤ i := by
      rcases Nat.lt_or_ge i (atL l e) with h | h
      · have := k1 i h
        have e1 : l.getD i dE = l[i] := by simp [hi]
        simp only [e1, geL, h0] at this
        simp at this
      · exact h
    have hlt : atL l e < l.length := by omega
    refine ⟨hlt, ?_⟩
    have e1 : l.getD (atL l e) dE = l[atL l e] := by simp [hlt]
    rw [e1]
    rcases Nat.eq_or_lt_of_le hle with h | h
    · have e2 : l[atL l e] = l[i] := by simp only [h]
      rw [e2]; exact h0
    · have h3 := k2 hlt
      rw [e1] at h3
      have h3 := of_decide_eq_true h3
      have h4 := valid_sorted hv (i - atL l e - 1) (atL l e) (by omega)
      have e2 : l[atL l e + (i - atL l e - 1) + 1]'(by omega) = l[i] := by congr 1; omega
      rw [e2] at h4
      -- l[at] stands ahead of l[i], which is e's own place
      have h5 := cmpL_anti l[atL l e] l[i]
      have hie : l[i].1 = e.1 ∧ l[i].2.1 = e.2.1 := by
        have hq' : isE e.1 e.2.1 l[i] = true := hq
        unfold isE at hq'
        rw [Bool.and_eq_true, beq_iff_eq, beq_iff_eq] at hq'
        exact hq'
      have h6 : cmpL l[atL l e] l[i] = cmpL l[atL l e] e := by unfold cmpL; rw [hie.1, hie.2]
      omega
/-- The reference's Add. -/
def raddR (l : List Ent) (e : Ent) : List Ent × Int :=
  if validL l && rightL e then
    if l.any (twE e) = true then ([], 330)
    else if (l.any fun o => clashL o e) = true then ([], 331)
    else if l.length = 100 then ([], 5)
    else (l.take (atL l e) ++ e :: l.drop (atL l e), 0)
  else ([], 2)
theorem radd_eq (l : List Ent) (e : Ent) : raddR l e = addR l e := by
  unfold raddR addR
  cases hv : validL l
  · rfl
  · cases hr : rightL e
    · rfl
    · simp only [Bool.and_self, if_true]
      have h := at_twice (e := e) hv
      by_cases h1 : (l.any (twE e)) = true
      · rw [if_pos h1, if_pos (h.2 h1)]
      · rw [if_neg h1, if_neg (fun h' => h1 (h.1 h'))]
/-- What the reference asks of each entry of a lexicon. -/
def okR (l : List Ent) (i : Nat) (e : Ent) : Bool := rightL e && ((decide (i = 0) || decide (cmpL (l.getD (i - 1) dE) e < 0)) && !(l.any fun o => clashL o e))
def okRt (l : List Ent) (i : Nat) : Bool := (l[i]?.map (okR l i)).getD true
theorem okRt_eq {l : List Ent} {k : Nat} {e : Ent} (hk : k < l.length) (he : l[k] = e) : okRt l k = okR l k e := by simp [okRt, hk, he]
theorem rvalid_iff (l : List Ent) : validL l = (decide (l.length ≤ 100) && !anyIdx (fun i => !okRt l i) l.length) := by
  rw [Bool.eq_iff_iff, valid_iff, Bool.and_eq_true, decide_eq_true_eq, Bool.not_eq_true', Bool.eq_false_iff, ne_eq, anyIdx_iff]
  have key : ∀ i (h : i < l.length), okRt l i = true ↔ rightL l[i] = true ∧ (i = 0 ∨ cmpL (l.getD (i - 1) dE) l[i] < 0) ∧ ∀ o ∈ l, clashL o l[i] = false := fun i h => by
    rw [okRt_eq h rfl]
    unfold okR
    simp only [Bool.and_eq_true, Bool.or_eq_true, decide_eq_true_eq, Bool.not_eq_true', List.any_eq_false, Bool.not_eq_true]
  constructor
  · rintro ⟨h1, h2⟩
    refine ⟨h1, fun ⟨i, hi, hp⟩ => ?_⟩
    have : okRt l i = true := by
      rw [key i hi]
      obtain ⟨a, b, c⟩ := h2 i hi
      refine ⟨a, b, fun o ho => ?_⟩
      obtain ⟨j, hj, rfl⟩ := List.getElem_of_mem ho
      rcases Nat.lt_trichotomy j i with h | h | h
      · exact c _ (List.mem_take_iff_getElem.2 ⟨j, by omega, rfl⟩)
      · subst h; exact clash_self _
      · rw [clash_symm]
        exact (h2 j hj).2.2 _ (List.mem_take_iff_getElem.2 ⟨i, by omega, rfl⟩)
    rw [this] at hp; cases hp
  · rintro ⟨h1, h2⟩
    refine ⟨h1, fun i h => ?_⟩
    have : okRt l i = true := by
      cases ho : okRt l i
      · exact absurd ⟨i, h, by simp [ho]⟩ h2
      · rfl
    obtain ⟨a, b, c⟩ := (key i h).1 this
    exact ⟨a, b, fun o ho => c o (List.mem_of_mem_take ho)⟩
/-- The reference's Add, on its way: the entries up to the k-th, and the new one where it belongs. -/
def putK (l : List Ent) (e : Ent) (k : Nat) : List Ent := if atL l e < k then l.take (atL l e) ++ e :: ((l.take k).drop (atL l e)) else l.take k
theorem putK_zero (l : List Ent) (e : Ent) : putK l e 0 = [] := by simp [putK]
theorem putK_len (l : List Ent) (e : Ent) (k : Nat) (hk : k ≤ l.length) : (putK l e k).length ≤ k + 1 := by
  unfold putK
  split
  · simp; omega
  · simp; omega
/-- Before its place: the entry goes ahead where it does. -/
theorem putK_same {l : List Ent} {e : Ent} {k : Nat} (hk : k < l.length) (h : atL l e ≠ k) : putK l e (k + 1) = putK l e k ++ [l[k]] := by
  unfold putK
  rw [List.take_succ_eq_append_getElem hk]
  rcases Nat.lt_or_ge (atL l e) k with h1 | h1
  · rw [if_pos (by omega), if_pos h1, List.drop_append_of_le_length (by simp; omega)]
    simp
  · rw [if_neg (by omega), if_neg (by omega)]
theorem putK_at {l : List Ent} {e : Ent} {k : Nat} (hk : k < l.length) (h : atL l e = k) : putK l e (k + 1) = putK l e k ++ [e] ++ [l[k]] := by
  unfold putK
  rw [if_pos (by omega), if_neg (by omega), h, List.take_succ_eq_append_getElem hk, List.drop_append_of_le_length (by simp; omega), List.drop_eq_nil_of_le (by simp; omega)]
  simp
theorem putK_end {l : List Ent} {e : Ent} (h : atL l e = l.length) : putK l e l.length ++ [e] = l.take (atL l e) ++ e :: l.drop (atL l e) := by
  unfold putK
  rw [if_neg (by omega), h]; simp
theorem putK_in {l : List Ent} {e : Ent} (h : atL l e < l.length) : putK l e l.length = l.take (atL l e) ++ e :: l.drop (atL l e) := by
  unfold putK
  rw [if_pos h]; simp
/-- The first entry that e stands ahead of, where none is of the same word and kind. -/
theorem at_here {l : List Ent} {e : Ent} {k : Nat} (hk : k < l.length) (hlo : ∀ i, i < k → twE e (l.getD i dE) = false) (hput : k ≤ atL l e) (htw : twE e l[k] = false) :
    decide (cmpL e l[k] < 0) = decide (atL l e = k) := by
  obtain ⟨k1, k2⟩ := firstIdx_spec (fun i => geL e (l.getD i dE)) l.length
  have hk' : firstIdx (fun i => geL e (l.getD i dE)) l.length = atL l e := rfl
  rw [hk'] at k1 k2
  have e1 : l.getD k dE = l[k] := by simp [hk]
  have h0 : cmpL l[k] e ≠ 0 := fun h => by rw [show twE e l[k] = true from (cmpL_zero _ _).1 h] at htw; cases htw
  have ha := cmpL_anti l[k] e
  rw [decide_eq_decide]
  constructor
  · intro h
    rcases Nat.lt_or_ge k (atL l e) with h1 | h1
    · have := k1 k h1
      simp only [e1, geL, decide_eq_false_iff_not] at this
      omega
    · omega
  · intro h
    have := k2 (by omega)
    rw [h] at this
    simp only [e1, geL, decide_eq_true_eq] at this
    omega
/-- The reference's Remove: all entries but those of that word and kind. -/
theorem rremove_eq {l : List Ent} (hv : validL l = true) (tok : List UInt8) (ct : UInt8) : removeR l tok ct = (if (l.filter fun o => !isE tok ct o).length = l.length then ([], 6) else (l.filter fun o => !isE tok ct o, 0)) := by
  unfold removeR
  rw [hv, if_pos rfl]
  obtain ⟨k1, k2⟩ := firstIdx_spec (fun i => isE tok ct (l.getD i dE)) l.length
  have hk : firstIdx (fun i => isE tok ct (l.getD i dE)) l.length = atE l tok ct := rfl
  have hle : atE l tok ct ≤ l.length := firstIdx_le _ _
  rw [hk] at k1 k2
  rcases Nat.eq_or_lt_of_le hle with h | h
  · rw [if_pos h]
    have hall : l.filter (fun o => !isE tok ct o) = l := by
      rw [List.filter_eq_self]
      intro o ho
      obtain ⟨i, hi, rfl⟩ := List.getElem_of_mem ho
      have := k1 i (by omega)
      have e1 : l.getD i dE = l[i] := by simp [hi]
      rw [e1] at this
      rw [this]; rfl
    rw [hall, if_pos rfl]
  · rw [if_neg (by omega)]
    have e1 : l.getD (atE l tok ct) dE = l[atE l tok ct] := by simp [h]
    have h3 := k2 h
    rw [e1] at h3
    have hf : l.filter (fun o => !isE tok ct o) = l.take (atE l tok ct) ++ l.drop (atE l tok ct + 1) := by
      conv => lhs; rw [← List.take_append_drop (atE l tok ct) l, List.drop_eq_getElem_cons h]
      rw [List.filter_append, List.filter_cons, h3]
      have ha : (l.take (atE l tok ct)).filter (fun o => !isE tok ct o) = l.take (atE l tok ct) := by
        rw [List.filter_eq_self]
        intro o ho
        obtain ⟨i, hi, rfl⟩ := List.mem_take_iff_getElem.1 ho
        have := k1 i (by omega)
        have e2 : l.getD i dE = l[i]'(by omega) := by rw [List.getD_eq_getElem?_getD, List.getElem?_eq_getElem (by omega)]; rfl
        rw [e2] at this
        rw [this]; rfl
      have hb : (l.drop (atE l tok ct + 1)).filter (fun o => !isE tok ct o) = l.drop (atE l tok ct + 1) := by
        rw [List.filter_eq_self]
        intro o ho
        obtain ⟨i, hi, rfl⟩ := List.getElem_of_mem ho
        rw [List.getElem_drop]
        rw [List.length_drop] at hi
        have hs := valid_sorted hv i (atE l tok ct) (by omega)
        cases hq : isE tok ct (l[atE l tok ct + 1 + i]'(by omega))
        · rfl
        · have hz : cmpL l[atE l tok ct] (l[atE l tok ct + 1 + i]'(by omega)) = 0 := by
            unfold isE at hq h3
            rw [Bool.and_eq_true, beq_iff_eq, beq_iff_eq] at hq h3
            unfold cmpL
            rw [hq.1, hq.2, h3.1, h3.2]
            simp
          have e2 : l[atE l tok ct + i + 1]'(by omega) = l[atE l tok ct + 1 + i]'(by omega) := by congr 1; omega
          rw [e2] at hs
          omega
      rw [ha, hb]; rfl
    have hlen : (l.filter fun o => !isE tok ct o).length ≠ l.length := by
      rw [hf]; simp; omega
    rw [if_neg hlen, hf]
end Go.Proofs.YtbbgieopcmjoeaaGreatDoor
