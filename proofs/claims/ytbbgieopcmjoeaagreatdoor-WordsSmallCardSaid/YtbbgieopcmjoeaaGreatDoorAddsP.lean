/- WordsAdds: what the law asks of lexicons with one more entry: plain lists, no program in sight. -/
import Derived.Test.YtbbgieopcmjoeaaGreatDoorRemB
namespace Go.Proofs.YtbbgieopcmjoeaaGreatDoor
theorem cmpB_self : ∀ a : List UInt8, Lib.compareBytes a a = 0
  | [] => rfl
  | x :: a => by
    have := cmpB_self a
    simp [Lib.compareBytes, this]
theorem cmpB_anti : ∀ a b : List UInt8, Lib.compareBytes b a = - Lib.compareBytes a b
  | [], [] => rfl
  | [], _ :: _ => rfl
  | _ :: _, [] => rfl
  | x :: a, y :: b => by
    have ih := cmpB_anti a b
    simp only [Lib.compareBytes]
    rcases Nat.lt_trichotomy x.toNat y.toNat with h | h | h
    · have h1 : x < y := h
      have h2 : ¬ y < x := fun h' => Nat.lt_irrefl _ (Nat.lt_trans h h')
      simp [h1, h2]
    · have h1 : x = y := UInt8.toNat_inj.1 h
      subst h1
      simp [ih]
    · have h1 : y < x := h
      have h2 : ¬ x < y := fun h' => Nat.lt_irrefl _ (Nat.lt_trans h h')
      simp [h1, h2]
theorem cmpL_anti (a b : Ent) : cmpL b a = - cmpL a b := by
  unfold cmpL
  by_cases h : a.1 = b.1
  · have h1 : (a.1 == b.1) = true := by simpa using h
    have h2 : (b.1 == a.1) = true := by simpa using h.symm
    rw [h1, h2]; simp; omega
  · have h1 : (a.1 == b.1) = false := by simpa using h
    have h2 : (b.1 == a.1) = false := by simpa using fun e => h e.symm
    rw [h1, h2]; exact cmpB_anti _ _
theorem cmpL_self (a : Ent) : cmpL a a = 0 := by unfold cmpL; simp
theorem clash_symm (a b : Ent) : clashL a b = clashL b a := by
  unfold clashL
  cases h1 : (a.2.1 == 3) <;> cases h2 : (b.2.1 == 3) <;> cases h3 : (a.2.1 == 5) <;> cases h4 : (b.2.1 == 5) <;> simp [Bool.beq_comm]
theorem clash_self (a : Ent) : clashL a a = false := by unfold clashL; simp
abbrev dE : Ent := ([], 0, [])
theorem valid_iff (l : List Ent) : validL l = true ↔ l.length ≤ 100 ∧ ∀ i (h : i < l.length), rightL l[i] = true ∧ (i = 0 ∨ cmpL (l.getD (i - 1) dE) l[i] < 0) ∧ ∀ o ∈ l.take i, clashL o l[i] = false := by
  have key : ∀ i (h : i < l.length), okAt l i = true ↔ rightL l[i] = true ∧ (i = 0 ∨ cmpL (l.getD (i - 1) dE) l[i] < 0) ∧ ∀ o ∈ l.take i, clashL o l[i] = false := fun i h => by
    rw [okAt_eq h rfl]
    unfold okE
    simp only [Bool.and_eq_true, Bool.or_eq_true, decide_eq_true_eq, Bool.not_eq_true', List.any_eq_false, Bool.not_eq_true]
  unfold validL
  rw [Bool.and_eq_true, decide_eq_true_eq, Bool.not_eq_true', Bool.eq_false_iff, ne_eq, anyIdx_iff]
  constructor
  · rintro ⟨h1, h2⟩
    refine ⟨h1, fun i h => (key i h).1 ?_⟩
    cases ho : okAt l i
    · exact absurd ⟨i, h, by simp [ho]⟩ h2
    · rfl
  · rintro ⟨h1, h2⟩
    refine ⟨h1, fun ⟨i, h, hp⟩ => ?_⟩
    rw [(key i h).2 (h2 i h)] at hp
    cases hp
/-- What is known where an entry has been added. -/
structure Added (l : List Ent) (e : Ent) (k : Nat) : Prop where
  valid : validL l = true
  right : rightL e = true
  le : k ≤ l.length
  lo : ∀ i (h : i < l.length), i < k → cmpL l[i] e < 0
  hi : ∀ (h : k < l.length), 0 < cmpL l[k] e
  clash : ∀ o ∈ l, clashL o e = false
  few : l.length < 100
theorem added_of {l : List Ent} {e : Ent} (h : (addR l e).2 = 0) : (addR l e).1 = l.take (atL l e) ++ e :: l.drop (atL l e) ∧ Added l e (atL l e) := by
  unfold addR at h ⊢
  split at h
  · rename_i h1
    rw [if_pos h1]
    rw [Bool.and_eq_true] at h1
    split at h
    · simp at h
    · rename_i h2
      rw [if_neg h2]
      split at h
      · simp at h
      · rename_i h3
        rw [if_neg h3]
        split at h
        · simp at h
        · rename_i h4
          rw [if_neg h4]
          obtain ⟨k1, k2⟩ := firstIdx_spec (fun i => geL e (l.getD i dE)) l.length
          have hk : firstIdx (fun i => geL e (l.getD i dE)) l.length = atL l e := rfl
          rw [hk] at k1 k2
          have hlen := ((valid_iff l).1 h1.1).1
          refine ⟨rfl, h1.1, h1.2, firstIdx_le _ _, fun i hi hik => ?_, fun hkl => ?_, fun o ho => ?_, by omega⟩
          · have := k1 i hik
            have e1 : l.getD i dE = l[i] := by simp [hi]
            rw [e1] at this
            unfold geL at this
            have := of_decide_eq_false this
            omega
          · have h5 := k2 hkl
            have e1 : l.getD (atL l e) dE = l[atL l e] := by simp [hkl]
            rw [e1] at h5
            unfold geL at h5
            have h5 := of_decide_eq_true h5
            have h6 : ¬ cmpL l[atL l e] e = 0 := fun h6 => h2 ⟨hkl, by rw [e1]; exact h6⟩
            omega
          · have h5 : (l.any fun o => clashL o e) = false := by simpa using h3
            rw [List.any_eq_false] at h5
            simpa using h5 o ho
  · simp at h
section
variable {l : List Ent} {e : Ent} {k : Nat}
def putL (l : List Ent) (e : Ent) (k : Nat) : List Ent := l.take k ++ e :: l.drop k
theorem put_len (h : k ≤ l.length) : (putL l e k).length = l.length + 1 := by unfold putL; simp; omega
theorem put_lo (h : k ≤ l.length) {i : Nat} (hi : i < k) : (putL l e k)[i]? = l[i]? := by
  unfold putL
  rw [List.getElem?_append_left (by simp; omega), List.getElem?_take, if_pos hi]
theorem put_at (h : k ≤ l.length) : (putL l e k)[k]? = some e := by
  unfold putL
  rw [List.getElem?_append_right (by simp; omega)]
  have : k - (l.take k).length = 0 := by simp; omega
  rw [this]; rfl
theorem put_hi (h : k ≤ l.length) {j : Nat} (hj : k ≤ j) : (putL l e k)[j + 1]? = l[j]? := by
  unfold putL
  rw [List.getElem?_append_right (by simp; omega)]
  have : j + 1 - (l.take k).length = (j - k) + 1 := by simp; omega
  rw [this, List.getElem?_cons_succ, List.getElem?_drop]
  congr 1; omega
theorem put_take_lo (h : k ≤ l.length) {i : Nat} (hi : i ≤ k) : (putL l e k).take i = l.take i := by
  unfold putL
  rw [List.take_append_of_le_length (by simp; omega), List.take_take]
  congr 1; omega
theorem put_take_hi (h : k ≤ l.length) {j : Nat} (hj : k ≤ j) : (putL l e k).take (j + 1) = l.take k ++ e :: (l.drop k).take (j - k) := by
  unfold putL
  rw [List.take_append]
  have : j + 1 - (l.take k).length = (j - k) + 1 := by simp; omega
  rw [this, List.take_succ_cons, List.take_of_length_le (by simp; omega)]
theorem put_mem_hi (h : k ≤ l.length) {j : Nat} (hj : k ≤ j) {o : Ent} (ho : o ∈ (putL l e k).take (j + 1)) : o = e ∨ o ∈ l.take j := by
  rw [put_take_hi h hj] at ho
  rcases List.mem_append.1 ho with ho | ho
  · right
    have : l.take k = (l.take j).take k := by rw [List.take_take]; congr 1; omega
    rw [this] at ho
    exact List.mem_of_mem_take ho
  · rcases List.mem_cons.1 ho with rfl | ho
    · exact .inl rfl
    · right
      have : (l.drop k).take (j - k) = (l.take j).drop k := by rw [List.drop_take]
      rw [this] at ho
      exact List.mem_of_mem_drop ho
theorem put_getD {i : Nat} {x : Ent} (h : (putL l e k)[i]? = some x) : (putL l e k).getD i dE = x := by rw [List.getD_eq_getElem?_getD, h]; rfl
theorem Added.put_valid (h : Added l e k) : validL (putL l e k) = true := by
  obtain ⟨hl, hv⟩ := (valid_iff l).1 h.valid
  have hle := h.le
  rw [valid_iff]
  refine ⟨by rw [put_len hle]; have := h.few; omega, fun i hi => ?_⟩
  have hi' : i < l.length + 1 := by rw [put_len hle] at hi; exact hi
  rcases Nat.lt_trichotomy i k with hik | hik | hik
  · have hil : i < l.length := by omega
    have ex : (putL l e k)[i] = l[i] := Option.some.inj ((List.getElem?_eq_getElem hi).symm.trans ((put_lo hle hik).trans (List.getElem?_eq_getElem hil)))
    rw [ex, put_take_lo hle (by omega)]
    obtain ⟨a, b, c⟩ := hv i hil
    refine ⟨a, ?_, c⟩
    rcases b with b | b
    · exact .inl b
    · rcases Nat.eq_zero_or_pos i with h0 | h0
      · exact .inl h0
      · right
        rw [put_getD ((put_lo hle (i := i - 1) (by omega)).trans (List.getElem?_eq_getElem (by omega)))]
        have : l.getD (i - 1) dE = l[i - 1] := by rw [List.getD_eq_getElem?_getD, List.getElem?_eq_getElem (by omega)]; rfl
        rw [this] at b; exact b
  · subst hik
    have ex : (putL l e i)[i] = e := Option.some.inj ((List.getElem?_eq_getElem hi).symm.trans (put_at hle))
    rw [ex, put_take_lo hle (Nat.le_refl _)]
    refine ⟨h.right, ?_, fun o ho => h.clash o (List.mem_of_mem_take ho)⟩
    rcases Nat.eq_zero_or_pos i with h0 | h0
    · exact .inl h0
    · right
      rw [put_getD ((put_lo hle (i := i - 1) (by omega)).trans (List.getElem?_eq_getElem (by omega)))]
      exact h.lo (i - 1) (by omega) (by omega)
  · obtain ⟨j, rfl⟩ : ∃ j, i = j + 1 := ⟨i - 1, by omega⟩
    have hjl : j < l.length := by omega
    have ex : (putL l e k)[j + 1] = l[j] := Option.some.inj ((List.getElem?_eq_getElem hi).symm.trans ((put_hi hle (by omega)).trans (List.getElem?_eq_getElem hjl)))
    rw [ex]
    obtain ⟨a, b, c⟩ := hv j hjl
    refine ⟨a, .inr ?_, fun o ho => ?_⟩
    · rw [Nat.add_sub_cancel]
      rcases Nat.lt_or_ge k j with hkj | hkj
      · obtain ⟨m, rfl⟩ : ∃ m, j = m + 1 := ⟨j - 1, by omega⟩
        rw [put_getD ((put_hi hle (j := m) (by omega)).trans (List.getElem?_eq_getElem (by omega)))]
        rcases b with b | b
        · omega
        · rw [Nat.add_sub_cancel] at b
          have : l.getD m dE = l[m] := by rw [List.getD_eq_getElem?_getD, List.getElem?_eq_getElem (by omega)]; rfl
          rw [this] at b; exact b
      · obtain rfl : j = k := by omega
        rw [put_getD (put_at hle)]
        have := h.hi hjl
        rw [cmpL_anti l[j] e]; omega
    · rcases put_mem_hi hle (by omega) ho with rfl | ho
      · rw [clash_symm]; exact h.clash _ (List.getElem_mem hjl)
      · exact c o ho
theorem Added.ne_lo (h : Added l e k) {i : Nat} (hi : i < l.length) (hik : i < k) : isE e.1 e.2.1 l[i] = false := by
  have h1 := h.lo i hi hik
  cases hq : isE e.1 e.2.1 l[i]
  · rfl
  · unfold isE at hq
    rw [Bool.and_eq_true, beq_iff_eq, beq_iff_eq] at hq
    unfold cmpL at h1
    rw [hq.1, hq.2] at h1
    simp at h1
theorem Added.twice (h : Added l e k) : addR (putL l e k) e = ([], 330) := by
  have hle := h.le
  have hk : k < (putL l e k).length := by rw [put_len hle]; omega
  have hat : atL (putL l e k) e = k := by
    unfold atL
    refine firstIdx_eq _ _ _ (by omega) (fun i hi => ?_) (fun _ => ?_)
    · have hil : i < l.length := by omega
      have e1 : (putL l e k).getD i dE = l[i] := put_getD ((put_lo hle hi).trans (List.getElem?_eq_getElem hil))
      show geL e ((putL l e k).getD i dE) = false
      rw [e1]
      unfold geL
      have := h.lo i hil hi
      rw [decide_eq_false_iff_not]; omega
    · show geL e ((putL l e k).getD k dE) = true
      rw [put_getD (put_at hle)]
      unfold geL
      rw [cmpL_self]; rfl
  unfold addR
  rw [if_pos (by rw [h.put_valid, h.right]; rfl), hat, if_pos ⟨hk, by rw [put_getD (put_at hle)]; exact cmpL_self e⟩]
theorem Added.back (h : Added l e k) : removeR (putL l e k) e.1 e.2.1 = (l, 0) := by
  have hle := h.le
  have hk : k < (putL l e k).length := by rw [put_len hle]; omega
  have hat : atE (putL l e k) e.1 e.2.1 = k := by
    unfold atE
    refine firstIdx_eq _ _ _ (by omega) (fun i hi => ?_) (fun _ => ?_)
    · have hil : i < l.length := by omega
      have e1 : (putL l e k).getD i dE = l[i] := put_getD ((put_lo hle hi).trans (List.getElem?_eq_getElem hil))
      show isE e.1 e.2.1 ((putL l e k).getD i dE) = false
      rw [e1]; exact h.ne_lo hil hi
    · show isE e.1 e.2.1 ((putL l e k).getD k dE) = true
      rw [put_getD (put_at hle)]
      unfold isE; simp
  unfold removeR
  rw [h.put_valid, if_pos rfl, hat, if_neg (by omega), put_take_lo hle (Nat.le_refl _)]
  have hd : (putL l e k).drop (k + 1) = l.drop k := by
    unfold putL
    rw [List.drop_append, List.drop_eq_nil_of_le (by simp; omega), List.nil_append]
    have : k + 1 - (l.take k).length = 1 := by simp; omega
    rw [this]; rfl
  rw [hd, List.take_append_drop]
theorem formsFrom_app (tok : List UInt8) : ∀ (a b : List Ent) (i : Nat), formsFrom tok i (a ++ b) = formsFrom tok i a ++ formsFrom tok (i + a.length) b
  | [], b, i => by simp [formsFrom]
  | x :: a, b, i => by
    simp only [List.cons_append, formsFrom, formsFrom_app tok a b (i + 1), List.append_assoc, List.length_cons]
    congr 3; omega
/-- A place in the new lexicon, as a place in the old one. -/
def unK (k : Nat) : List (Nat × Bool) → List (Nat × Bool)
  | [] => []
  | f :: r => if f.1 = k then unK k r else (if k < f.1 then f.1 - 1 else f.1, f.2) :: unK k r
theorem unK_app (k : Nat) : ∀ a b : List (Nat × Bool), unK k (a ++ b) = unK k a ++ unK k b
  | [], b => rfl
  | f :: a, b => by
    simp only [List.cons_append, unK, unK_app k a b]
    split <;> rfl
theorem unK_lo (k : Nat) (tok : List UInt8) : ∀ (a : List Ent) (i : Nat), i + a.length ≤ k → unK k (formsFrom tok i a) = formsFrom tok i a
  | [], i, _ => rfl
  | x :: a, i, h => by
    simp only [List.length_cons] at h
    simp only [formsFrom, unK_app, unK_lo k tok a (i + 1) (by omega)]
    congr 1
    split
    · simp only [unK]; rw [if_neg (by omega), if_neg (by omega)]
    · rfl
theorem unK_hi (k : Nat) (tok : List UInt8) : ∀ (a : List Ent) (i : Nat), k ≤ i → unK k (formsFrom tok (i + 1) a) = formsFrom tok i a
  | [], i, _ => rfl
  | x :: a, i, h => by
    simp only [formsFrom, unK_app, unK_hi k tok a (i + 1) (by omega)]
    congr 1
    split
    · simp only [unK]; rw [if_neg (by omega), if_pos (by omega)]; rfl
    · rfl
theorem unK_forms (hle : k ≤ l.length) (tok : List UInt8) : unK k (formsFrom tok 0 (putL l e k)) = formsFrom tok 0 l := by
  have e1 : putL l e k = l.take k ++ ([e] ++ l.drop k) := rfl
  have e2 : formsFrom tok 0 l = formsFrom tok 0 (l.take k ++ l.drop k) := by rw [List.take_append_drop]
  have hk : (l.take k).length = k := by simp; omega
  rw [e1, e2, formsFrom_app, formsFrom_app, formsFrom_app, unK_app, unK_app, hk, Nat.zero_add]
  rw [unK_lo k tok _ 0 (by omega), show k + [e].length = k + 1 from rfl, unK_hi k tok _ k (Nat.le_refl _)]
  have e3 : unK k (formsFrom tok k [e]) = [] := by
    simp only [formsFrom, List.append_nil]
    split
    · simp only [unK]; rw [if_pos trivial]
    · rfl
  rw [e3]; rfl
theorem own_form_in (hle : k ≤ l.length) : (k, false) ∈ formsFrom e.1 0 (putL l e k) := by
  have e1 : putL l e k = l.take k ++ ([e] ++ l.drop k) := rfl
  have hk : (l.take k).length = k := by simp; omega
  rw [e1, formsFrom_app, formsFrom_app, hk, Nat.zero_add]
  refine List.mem_append_right _ (List.mem_append_left _ ?_)
  have : hitE e.1 e = true := by unfold hitE; simp
  simp [formsFrom, this]
theorem look_forms {m : List Ent} (h : validL m = true) (tok : List UInt8) : lookR m tok = (formsFrom tok 0 m, 0) := by
  unfold lookR formsK; rw [h, List.take_length]; rfl
end
end Go.Proofs.YtbbgieopcmjoeaaGreatDoor
