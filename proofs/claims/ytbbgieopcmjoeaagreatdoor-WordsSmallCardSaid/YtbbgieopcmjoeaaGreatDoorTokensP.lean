/- The tokens of a text, as plain lists: no program in sight. -/
import Derived.Test.YtbbgieopcmjoeaaGreatDoorPieces
namespace Go.Proofs.YtbbgieopcmjoeaaGreatDoor
def lowU (b : UInt8) : UInt8 := if capB b.toNat then b + 32 else b
def lowL (l : List UInt8) : List UInt8 := l.map lowU
/-- One more piece: the tokens so far, and whether the period has come. -/
def tokStep (st : List (List UInt8) × Bool) (t : List UInt8) : Option (List (List UInt8) × Bool) :=
  if st.2 || ((!letU (t.headD 0) && (!(t == [44]) && !(t == [46]))) || (st.1.isEmpty && !letU (t.headD 0))) then none
  else some (st.1 ++ [if st.1.isEmpty && isFn (lowL t) then lowL t else t], (if st.1.isEmpty && isFn (lowL t) then lowL t else t) == [46])
def tokAll : List (Nat × List UInt8) → List (List UInt8) × Bool → Nat ⊕ (List (List UInt8) × Bool)
  | [], st => .inr st
  | p :: r, st => match tokStep st p.2 with
    | none => .inl p.1
    | some st' => tokAll r st'
theorem tokAll_snoc (p : Nat × List UInt8) : ∀ (ps : List (Nat × List UInt8)) (st : List (List UInt8) × Bool), tokAll (ps ++ [p]) st = match tokAll ps st with
    | .inl a => .inl a
    | .inr st' => match tokStep st' p.2 with
      | none => .inl p.1
      | some st'' => .inr st''
  | [], st => by simp only [List.nil_append, tokAll]
  | q :: r, st => by
    simp only [List.cons_append, tokAll]
    cases tokStep st q.2 with
    | none => rfl
    | some st' => exact tokAll_snoc p r st'
theorem tokAll_prefix {a : Nat} : ∀ (ps qs : List (Nat × List UInt8)) (st : List (List UInt8) × Bool), tokAll ps st = .inl a → tokAll (ps ++ qs) st = .inl a
  | [], qs, st, h => by cases h
  | p :: r, qs, st, h => by
    simp only [List.cons_append, tokAll] at h ⊢
    cases hs : tokStep st p.2 with
    | none => rw [hs] at h; exact h
    | some st' => rw [hs] at h; exact tokAll_prefix r qs st' h
/-- What Tokens returns: the tokens, the place, the error. -/
def tokensR (s : List UInt8) : List (List UInt8) × Int × Int :=
  if 1000 < s.length then ([], 0, 3)
  else match tokAll (piecesOf s) ([], false) with
    | .inl a => ([], a, 332)
    | .inr st => if st.2 then (st.1, 0, 0) else ([], s.length, 332)
theorem lowerB_eq : Lib.toLowerA = lowL := by
  funext l
  unfold Lib.toLowerA lowL
  congr 1
  funext b
  have : ∀ n : Fin 256, Lib.lowerB (UInt8.ofNat n.val) = lowU (UInt8.ofNat n.val) := by decide +kernel
  have h := this ⟨b.toNat, b.toNat_lt⟩
  simpa using h
theorem letU_ascii {b : UInt8} (h : letU b = true) : b.toNat < 128 := by
  simp only [letU, letB, smallB, capB, Bool.or_eq_true, Bool.and_eq_true, decide_eq_true_eq] at h
  omega
theorem lower_any (t : List UInt8) (w : World) (hl : t.all letU = true) (hm : t.length ≤ 1048576) :
    Calls Tryz.prog 65 #[str t] w fun e w' => e = .returned (str (lowL t)) ∧ RowKit.Below w.heap.size w w' := by
  refine (Tryz.strings_ToLower_ascii ⟨t.toArray⟩ w (by show t.length ≤ _; omega) (fun j b h => ?_)).mono ?_
  · obtain ⟨hj, rfl⟩ := List.getElem?_eq_some_iff.1 (show t[j]? = some b from h)
    exact letU_ascii (List.all_eq_true.1 hl _ (List.getElem_mem hj))
  · rintro e w' ⟨rfl, hb⟩
    exact ⟨by rw [lowerB_eq], hb⟩
end Go.Proofs.YtbbgieopcmjoeaaGreatDoor
