/- WordsFound: Small, the law's walk, and what it asks of lexicons. -/
import Derived.Test.YtbbgieopcmjoeaaGreatDoorLawThird
namespace Go.Proofs.YtbbgieopcmjoeaaGreatDoor
open Go.RowKit
def smE (e : Ent) : Bool := decide (e.1.length ≤ 40) && decide (e.2.2.length ≤ 40)
def smallL (l : List Ent) : Bool := decide (l.length ≤ 103) && l.all smE
def SmallTo (l : List Ent) (k : Nat) : Prop := ∀ i (h : i < l.length), i < k → smE l[i] = true
theorem SmallTo.zero (l : List Ent) : SmallTo l 0 := fun i _ h => absurd h (by omega)
theorem SmallTo.succ {l : List Ent} {k : Nat} {e : Ent} (h : SmallTo l k) (hk : k < l.length) (he : l[k] = e) (h1 : e.1.length ≤ 40) (h2 : e.2.2.length ≤ 40) : SmallTo l (k + 1) := fun i hi hik => by
  rcases Nat.lt_or_eq_of_le (Nat.lt_succ_iff.1 hik) with h3 | rfl
  · exact h i hi h3
  · rw [he]; simp [smE, h1, h2]
theorem small_long {l : List Ent} (h : 103 < l.length) : smallL l = false := by unfold smallL; rw [Bool.and_eq_false_iff]; left; simp; omega
theorem small_not {l : List Ent} {k : Nat} (hk : k < l.length) {e : Ent} (he : l[k] = e) (h : 40 < e.1.length ∨ 40 < e.2.2.length) : smallL l = false := by
  unfold smallL; rw [Bool.and_eq_false_iff]; right
  rw [List.all_eq_false]
  refine ⟨l[k], List.getElem_mem hk, ?_⟩
  rw [he]; simp [smE]; omega
theorem small_yes {l : List Ent} (h : SmallTo l l.length) (hl : l.length ≤ 103) : smallL l = true := by
  unfold smallL; rw [Bool.and_eq_true]
  refine ⟨by simpa using hl, List.all_eq_true.2 fun e he => ?_⟩
  obtain ⟨i, hi, rfl⟩ := List.getElem_of_mem he
  exact h i hi hi
theorem small_each {l : List Ent} (h : smallL l = true) : l.length ≤ 103 ∧ ∀ e ∈ l, e.1.length ≤ 40 ∧ e.2.2.length ≤ 40 := by
  unfold smallL at h; rw [Bool.and_eq_true] at h
  exact ⟨by simpa using h.1, fun e he => by simpa [smE] using List.all_eq_true.1 h.2 e he⟩
set_option maxRecDepth 100000 in
set_option maxHeartbeats 800000 in
theorem small_any (l : List Ent) (A : Option Addr) (c : Nat) (w : World) (hr : Reads w w.heap.size 3 A l.length (flat l)) (hl : ∀ e ∈ l, e.1.length ≤ maxLen ∧ e.2.2.length ≤ maxLen) :
    Calls Tryz.prog 6 #[.slice A l.length c] w fun e w' => e = .returned (.bool (smallL l)) ∧ w = w' := by
  have HR := Lib.hid hr; clear hr
  have HL := Lib.hid hl; clear hl
  go_enter Tryz.func6, Tryz.ntmps6
  go_wp2_with fail
  go_loop [3] (fun i => ∃ k : Nat, k ≤ l.length ∧ k ≤ 103 ∧ i = .int .i64 k ∧ SmallTo l k) (fun i => l.length - (intOf i).toNat)
  case atStart => exact ⟨0, Nat.zero_le _, by omega, rfl, SmallTo.zero _⟩
  case round =>
    obtain ⟨k, hk, hk3, rfl, hno⟩ := hrel
    have HN := Lib.hid hno; clear hno
    by_cases hlt : k < l.length
    · obtain ⟨b, off, rfl, hB, h0, h1, h2⟩ := (HR.out).ent hlt
      by_cases h103 : k = 103
      · subst h103
        have HS := Lib.hid (small_long (l := l) (by omega))
        go_wp2_with fail
        go_ret
        exact ⟨ret_bool HS.out.symm, rfl⟩
      · have hki : ((k : Int) == 103) = false := by rw [beq_eq_false_iff_ne]; omega
        have hm := (HL.out) _ (List.getElem_mem hlt)
        unfold maxLen at hm
        have HS1 : Hid (40 < l[k].1.length ∨ 40 < l[k].2.2.length → smallL l = false) := fun h => small_not hlt rfl h
        have HS2 : Hid (l[k].1.length ≤ 40 → l[k].2.2.length ≤ 40 → SmallTo l (k + 1)) := fun h1 h2 => (HN.out).succ hlt rfl h1 h2
        generalize l[k] = e at h0 h1 h2 hm HS1 HS2
        obtain ⟨x, ct, sy⟩ := e
        simp only at h0 h1 h2 hm HS1 HS2
        cases d0 : decide (40 < (x.length : Int))
        · have d0' : x.length ≤ 40 := by simp at d0; omega
          cases d2 : decide (40 < (sy.length : Int))
          · have d2' : sy.length ≤ 40 := by simp at d2; omega
            go_wp2_with fail
            go_round
            case rel => exact ⟨k + 1, by omega, by omega, by go_num, (HS2.out) d0' d2'⟩
            case measure => simp [intOf]; omega
          · have d2' : 40 < sy.length := by simp at d2; omega
            go_wp2_with fail
            go_ret
            exact ⟨ret_bool ((HS1.out) (.inr d2')).symm, rfl⟩
        · have d0' : 40 < x.length := by simp at d0; omega
          go_wp2_with fail
          go_ret
          exact ⟨ret_bool ((HS1.out) (.inl d0')).symm, rfl⟩
    · obtain rfl : k = l.length := by omega
      go_wp2_with fail
      go_ret
      exact ⟨ret_bool (small_yes HN.out hk3).symm, rfl⟩
theorem valid_right {l : List Ent} (hv : validL l = true) {k : Nat} (hk : k < l.length) : rightL l[k] = true := by
  cases h : rightL l[k]
  · have : okAt l k = false := by rw [okAt_eq hk rfl]; unfold okE; rw [h]; rfl
    rw [valid_bad hk this] at hv; cases hv
  · rfl
theorem right_plain {x sy : List UInt8} {ct : UInt8} (h : rightL (x, ct, sy) = true) (h3 : ct ≠ 3) : plainL x = true := by
  unfold rightL at h
  rw [if_neg h3] at h
  simp only [Bool.and_eq_true] at h
  exact h.2.2.1
theorem third_ne (x : List UInt8) : (thirdL x == x) = false ∧ (thirdL x == []) = false := by
  have := (third_len x).1
  constructor
  · rw [beq_eq_false_iff_ne]; intro h; rw [h] at this; omega
  · rw [beq_eq_false_iff_ne]; intro h; rw [h] at this; simp at this
theorem formsFrom_append (tok : List UInt8) : ∀ (a b : List Ent) (i : Nat), formsFrom tok i (a ++ b) = formsFrom tok i a ++ formsFrom tok (i + a.length) b
  | [], b, i => by simp [formsFrom]
  | x :: a, b, i => by simp [formsFrom, formsFrom_append tok a b (i + 1), Nat.add_assoc, Nat.add_comm 1]
theorem forms_prefix (l : List Ent) (tok : List UInt8) (k : Nat) : ∃ r, formsK l tok l.length = formsK l tok k ++ r := by
  refine ⟨formsFrom tok (0 + (l.take k).length) (l.drop k), ?_⟩
  unfold formsK
  rw [List.take_length, ← formsFrom_append, List.take_append_drop]
theorem found_hit {l : List Ent} {tok : List UInt8} {k : Nat} (hk : k < l.length) (h : hitE tok l[k] = true) : (formsK l tok k).length < (formsK l tok l.length).length ∧
    (formsK l tok l.length)[(formsK l tok k).length]? = some (k, !(tok == l[k].1)) ∧ (formsK l tok (k + 1)).length = (formsK l tok k).length + 1 := by
  obtain ⟨r, hr⟩ := forms_prefix l tok (k + 1)
  have e := formsK_succ l tok k hk
  rw [if_pos h] at e
  rw [hr, e]
  refine ⟨by simp, ?_, by simp⟩
  simp [List.append_assoc]
theorem found_miss {l : List Ent} {tok : List UInt8} {k : Nat} (hk : k < l.length) (h : hitE tok l[k] = false) : (formsK l tok (k + 1)).length = (formsK l tok k).length := by
  rw [formsK_succ l tok k hk, if_neg (by rw [h]; simp)]; simp
theorem flatF_get : ∀ (F : List (Nat × Bool)) (n : Nat) (f : Nat × Bool), F[n]? = some f → (flatF F)[n * 2]? = some (num f.1) ∧ (flatF F)[n * 2 + 1]? = some (.bool f.2)
  | g :: F, 0, f, h => by
    obtain rfl : g = f := by simpa using h
    exact ⟨rfl, rfl⟩
  | g :: F, n + 1, f, h => by
    obtain ⟨h1, h2⟩ := flatF_get F n f (by simpa using h)
    have e : flatF (g :: F) = num g.1 :: .bool g.2 :: flatF F := rfl
    rw [e, show (n + 1) * 2 = n * 2 + 1 + 1 by omega, show n * 2 + 1 + 1 + 1 = n * 2 + 1 + 1 + 1 by rfl]
    exact ⟨by simpa using h1, by simpa using h2⟩
  | [], _, _, h => by simp at h
theorem Reads.form {w : World} {B : Nat} {A : Option Addr} {F : List (Nat × Bool)} {n : Nat} {f : Nat × Bool} (h : Reads w B 2 A F.length (flatF F)) (hn : n < F.length) (hf : F[n]? = some f) :
    ∃ b off, A = some ⟨b, off, none⟩ ∧ b < B ∧ w.cell? ⟨b, off + n * 2, none⟩ = some (num f.1) ∧ w.cell? ⟨b, off + n * 2 + 1, none⟩ = some (.bool f.2) := by
  obtain ⟨ad, e, hb, hc⟩ := h.2 (by omega)
  obtain ⟨h0, h1⟩ := flatF_get F n f hf
  have hs : ad.spot = none := by
    have hl := h.1
    have h0 := hc 0 (flatF F)[0] (List.getElem?_eq_getElem (by omega))
    exact World.cell?_spot (by simpa [Addr.add] using h0)
  obtain ⟨b, off, spot⟩ := ad
  obtain rfl : spot = none := hs
  have k0 := hc _ _ h0
  have k1 := hc _ _ h1
  rw [addr_add] at k0 k1
  exact ⟨b, off, e, hb, k0, by rw [← k1]; congr 1⟩
theorem hit_verb {tok x sy : List UInt8} {ct : UInt8} (hv : (ct == 4 || ct == 5) = true) (hp : plainL x = true) : hitE tok (x, ct, sy) = (tok == x || tok == thirdL x) := by
  have e : thirdOf (x, ct, sy) = thirdL x := by
    unfold thirdOf
    simp only [hv, if_true]
    unfold thirdR; rw [if_pos hp]
  unfold hitE
  rw [e, (third_ne x).2]; simp
theorem hit_else {tok x sy : List UInt8} {ct : UInt8} (hv : (ct == 4 || ct == 5) = false) : hitE tok (x, ct, sy) = (tok == x) := by
  have e : thirdOf (x, ct, sy) = [] := by
    unfold thirdOf
    simp only [hv]; rfl
  unfold hitE
  rw [e]; simp
end Go.Proofs.YtbbgieopcmjoeaaGreatDoor
