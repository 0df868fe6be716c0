/- WordsFound: Small, the law's walk, and what it asks of lexicons. -/
import Derived.Test.YtbbgieopcmjoeaaDoorLawThird
namespace Go.Proofs.YtbbgieopcmjoeaaDoor
open Go.RowKit
def smE (e : Ent) : Bool := decide (e.1.length ≤ 40) && decide (e.2.2.length ≤ 40)
def smallL (l : List Ent) : Bool := decide (l.length ≤ 103) && l.all smE
def SmallTo (l : List Ent) (k : Nat) : Prop := ∀ i (h : i < l.length), i < k → smE l[i] = true
theorem SmallTo.zero (l : List Ent) : SmallTo l 0 := fun i _ h => absurd h (by omega)
theorem SmallTo.succ {l : List Ent} {k : Nat} {e : Ent} (h : SmallTo l k) (hk : k < l.length) (he : l[k] = e) (h1 : e.1.length ≤ 40) (h2 : e.2.2.length ≤ 40) : SmallTo l (k + 1) := fun i hi hik => by
  rcases Nat.lt_or_eq_of_le (Nat.lt_succ_iff.1 hik) with h3 | rfl
  · exact h i hi h3
  · rw [he]; simp [smE, h1, h2]
theorem small_long {l : List Ent} (h : 103 < l.length) : smallL l = false := by unfold smallL; rw [Bool.and_eq_false_iff]; left; simp; omega
theorem small_not {l : List Ent} {k : Nat} (hk : k < l.length) {e : Ent} (he : l[k] = e) (h : 40 < e.1.length ∨ 40 < e.2.2.length) : smallL l = false := by
  unfold smallL; rw [Bool.and_eq_false_iff]; right
  rw [List.all_eq_false]
  refine ⟨l[k], List.getElem_mem hk, ?_⟩
  rw [he]; simp [smE]; omega
theorem small_yes {l : List Ent} (h : SmallTo l l.length) (hl : l.length ≤ 103) : smallL l = true := by
  unfold smallL; rw [Bool.and_eq_true]
  refine ⟨by simpa using hl, List.all_eq_true.2 fun e he => ?_⟩
  obtain ⟨i, hi, rfl⟩ := List.getElem_of_mem he
  exact h i hi hi
theorem small_each {l : List Ent} (h : smallL l = true) : l.length ≤ 103 ∧ ∀ e ∈ l, e.1.length ≤ 40 ∧ e.2.2.length ≤ 40 := by
  unfold smallL at h; rw [Bool.and_eq_true] at h
  exact ⟨by simpa using h.1, fun e he => by simpa [smE] using List.all_eq_true.1 h.2 e he⟩
set_option maxRecDepth 100000 in
set_option maxHeartbeats 800000 in
theorem small_any (l : List Ent) (A : Option Addr) (c : Nat) (w : World) (hr : Reads w w.heap.size 3 A l.length (flat l)) (hl : ∀ e ∈ l, e.1.length ≤ maxLen ∧ e.2.2.length ≤ maxLen) :
    Calls Tryd.prog 17 #[.slice A l.length c] w fun e w' => e = .returned (.bool (smallL l)) ∧ w = w' := by
  have HR := Lib.hid hr; clear hr
  have HL := Lib.hid hl; clear hl
  go_enter Tryd.func17, Tryd.ntmps17
  go_wp2_with fail
  go_loop [3] (fun i => ∃ k : Nat, k ≤ l.length ∧ k ≤ 103 ∧ i = .int .i64 k ∧ SmallTo l k) (fun i => l.length - (intOf i).toNat)
  case atStart => exact ⟨0, Nat.zero_le _, by omega, rfl, SmallTo.zero _⟩
  case round =>
    obtain ⟨k, hk, hk3, rfl, hno⟩ := hrel
    have HN := Lib.hid hno; clear hno
    by_cases hlt : k < l.length
    · obtain ⟨b, off, rfl, hB, h0, h1, h2⟩ := (HR.out).ent hlt
      by_cases h103 : k = 103
      · subst h103
        have HS := Lib.hid (small_long (l := l) (by omega))
        go_wp2_with fail
        go_ret
        exact ⟨ret_bool HS.out.symm, rfl⟩
      · have hki : ((k : Int) == 103) = false := by rw [beq_eq_false_iff_ne]; omega
        have hm := (HL.out) _ (List.getElem_mem hlt)
        unfold maxLen at hm
        have HS1 : Hid (40 < l[k].1.length ∨ 40 < l[k].2.2.length → smallL l = false) := fun h => small_not hlt rfl h
        have HS2 : Hid (l[k].1.length ≤ 40 → l[k].2.2.length ≤ 40 → SmallTo l (k + 1)) := fun h1 h2 => (HN.out).succ hlt rfl h1 h2
        generalize l[k] = e at h0 h1 h2 hm HS1 HS2
        obtain ⟨x, ct, sy⟩ := e
        simp only at h0 h1 h2 hm HS1 HS2
        cases d0 : decide (40 < (x.length : Int))
        · have d0' : x.length ≤ 40 := by simp at d0; omega
          cases d2 : decide (40 < (sy.length : Int))
          · have d2' : sy.length ≤ 40 := by simp at d2; omega
            go_wp2_with fail
            go_round
            case rel => exact ⟨k + 1, by omega, by omega, by go_num, (HS2.out) d0' d2'⟩
            case measure => simp [intOf]; omega
          · have d2' : 40 < sy.length := by simp at d2; omega
            go_wp2_with fail
            go_ret
            exact ⟨ret_bool ((HS1.out) (.inr d2')).symm, rfl⟩
        · have d0' : 40 < x.length := by simp at d0; omega
          go_wp2_with fail
          go_ret
          exact ⟨ret_bool ((HS1.out) (.inl d0')).symm, rfl⟩
    · obtain rfl : k = l.length := by omega
      go_wp2_with fail
      go_ret
      exact ⟨ret_bool (small_yes HN.out hk3).symm, rfl⟩
theorem valid_right {l : List Ent} (hv : validL l = true) {k : Nat} (hk : k < l.length) : rightL l[k] = true := by
  cases h : rightL l[k]
  · have : okAt l k = false := by rw [okAt_eq hk rfl]; unfold okE; rw [h]; rfl
    rw [valid_bad hk this] at hv; cases hv
  · rfl
theorem right_plain {x sy : List UInt8} {ct : UInt8} (h : rightL (x, ct, sy) = true) (h3 : ct ≠ 3) : plainL x = true := by
  unfold rightL at h
  rw [if_neg h3] at h
  simp only [Bool.and_eq_true] at h
  exact h.2.2.1
theorem third_ne (x : List UInt8) : (thirdL x == x) = false ∧ (thirdL x == []) = false := by
  have := (third_len x).1
  constructor
  · rw [beq_eq_false_iff_ne]; intro h; rw [h] at this; omega
  · rw [beq_eq_false_iff_ne]; intro h; rw [h] at this; simp at this
theorem formsFrom_append (tok : List UInt8) : ∀ (a b : List Ent) (i : Nat), formsFrom tok i (a ++ b) = formsFrom tok i a ++ formsFrom tok (i + a.length) b
  | [], b, i => by simp [formsFrom]
  | x :: a, b, i => by simp [formsFrom, formsFrom_append tok a b (i + 1), Nat.add_assoc, Nat.add_comm 1]
theorem forms_prefix (l : List Ent) (tok : List UInt8) (k : Nat) : ∃ r, formsK l tok l.length = formsK l tok k ++ r := by
  refine ⟨formsFrom tok (0 + (l.take k).length) (l.drop k), ?_⟩
  unfold formsK
  rw [List.take_length, ← formsFrom_append, List.take_append_drop]
theorem found_hit {l : List Ent} {tok : List UInt8} {k : Nat} (hk : k < l.length) (h : hitE tok l[k] = true) : (formsK l tok k).length < (formsK l tok l.length).length ∧
    (formsK l tok l.length)[(formsK l tok k).length]? = some (k, !(tok == l[k].1)) ∧ (formsK l tok (k + 1)).length = (formsK l tok k).length + 1 := by
  obtain ⟨r, hr⟩ := forms_prefix l tok (k + 1)
  have e := formsK_succ l tok k hk
  rw [if_pos h] at e
  rw [hr, e]
  refine ⟨by simp, ?_, by simp⟩
  simp [List.append_assoc]
theorem found_miss {l : List Ent} {tok : List UInt8} {k : Nat} (hk : k < l.length) (h : hitE tok l[k] = false) : (formsK l tok (k + 1)).length = (formsK l tok k).length := by
  rw [formsK_succ l tok k hk, if_neg (by rw [h]; simp)]; simp
theorem flatF_get : ∀ (F : List (Nat × Bool)) (n : Nat) (f : Nat × Bool), F[n]? = some f → (flatF F)[n * 2]? = some (num f.1) ∧ (flatF F)[n * 2 + 1]? = some (.bool f.2)
  | g :: F, 0, f, h => by
    obtain rfl : g = f := by simpa using h
    exact ⟨rfl, rfl⟩
  | g :: F, n + 1, f, h => by
    obtain ⟨h1, h2⟩ := flatF_get F n f (by simpa using h)
    have e : flatF (g :: F) = num g.1 :: .bool g.2 :: flatF F := rfl
    rw [e, show (n + 1) * 2 = n * 2 + 1 + 1 by omega, show n * 2 + 1 + 1 + 1 = n * 2 + 1 + 1 + 1 by rfl]
    exact ⟨by simpa using h1, by simpa using h2⟩
  | [], _, _, h => by simp at h
theorem Reads.form {w : World} {B : Nat} {A : Option Addr} {F : List (Nat × Bool)} {n : Nat} {f : Nat × Bool} (h : Reads w B 2 A F.length (flatF F)) (hn : n < F.length) (hf : F[n]? = some f) :
    ∃ b off, A = some ⟨b, off, none⟩ ∧ b < B ∧ w.cell? ⟨b, off + n * 2, none⟩ = some (num f.1) ∧ w.cell? ⟨b, off + n * 2 + 1, none⟩ = some (.bool f.2) := by
  obtain ⟨ad, e, hb, hc⟩ := h.2 (by omega)
  obtain ⟨h0, h1⟩ := flatF_get F n f hf
  have hs : ad.spot = none := by
    have hl := h.1
    have h0 := hc 0 (flatF F)[0] (List.getElem?_eq_getElem (by omega))
    exact World.cell?_spot (by simpa [Addr.add] using h0)
  obtain ⟨b, off, spot⟩ := ad
  obtain rfl : spot = none := hs
  have k0 := hc _ _ h0
  have k1 := hc _ _ h1
  rw [addr_add] at k0 k1
  exact ⟨b, off, e, hb, k0, by rw [← k1]; congr 1⟩
theorem hit_verb {tok x sy : List UInt8} {ct : UInt8} (hv : (ct == 4 || ct == 5) = true) (hp : plainL x = true) : hitE tok (x, ct, sy) = (tok == x || tok == thirdL x) := by
  have e : thirdOf (x, ct, sy) = thirdL x := by
    unfold thirdOf
    simp only [hv, if_true]
    unfold thirdR; rw [if_pos hp]
  unfold hitE
  rw [e, (third_ne x).2]; simp
theorem hit_else {tok x sy : List UInt8} {ct : UInt8} (hv : (ct == 4 || ct == 5) = false) : hitE tok (x, ct, sy) = (tok == x) := by
  have e : thirdOf (x, ct, sy) = [] := by
    unfold thirdOf
    simp only [hv]; rfl
  unfold hitE
  rw [e]; simp
set_option maxRecDepth 100000 in
set_option maxHeartbeats 3200000 in
theorem wordsFound_core (l : List Ent) (tok : List UInt8) (A : Option Addr) (c : Nat) (w : World) (hr : Reads w w.heap.size 3 A l.length (flat l)) (hle : l.length ≤ c) (hs : ∀ e ∈ l, e.1.length ≤ maxLen ∧ e.2.2.length ≤ maxLen) (ht : tok.length ≤ maxLen) :
    Calls Tryd.prog 5 #[.slice A l.length c, str tok] w fun e w' => e = .returned (.bool true) ∧ Below w.heap.size w w' := by
  have HR := Lib.hid hr; clear hr
  have HS := Lib.hid hs; clear hs
  unfold maxLen at ht
  cases hsm : smallL l
  · have HSM := Lib.hid hsm; clear hsm
    go_enter Tryd.func5, Tryd.ntmps5
    go_wp2_with fail
    go_at_call 12; refine (awake_any _).mono ?_; rintro e w1 ⟨rfl, hb1⟩
    go_wp2_with fail
    go_at_call 17; refine (small_any l _ _ _ ((HR.out).later hb1) HS.out).mono ?_; rintro e w2 ⟨rfl, rfl⟩; rw [HSM.out]
    go_wp2_with fail
    go_ret
    exact ⟨rfl, hb1⟩
  · obtain ⟨hl1, hl2⟩ := small_each hsm
    have HSM := Lib.hid hsm; clear hsm
    cases hd : decide (40 < (tok.length : Int))
    · have HW : Hid (∀ e ∈ l, e.1.length ≤ 1048576) := fun e he => by have := (hl2 e he).1; omega
      cases hv : validL l
      · have HX : Hid (lookR l tok = ([], 2)) := by unfold lookR; rw [hv]; rfl
        have HV := Lib.hid hv; clear hv hl2
        go_enter Tryd.func5, Tryd.ntmps5
        go_wp2_with fail
        go_at_call 12; refine (awake_any _).mono ?_; rintro e w1 ⟨rfl, hb1⟩
        have HR1 := Lib.hid ((HR.out).later hb1)
        go_wp2_with fail
        go_at_call 17; refine (small_any l _ _ _ (HR1.out) HS.out).mono ?_; rintro e w2 ⟨rfl, rfl⟩; rw [HSM.out]
        go_wp2_with fail
        go_at_call 18; refine (look_any l tok _ _ _ HW.out hle (HR1.out)).mono ?_; rw [HX.out]; rintro e w3 ⟨A3, c3, rfl, -, -, hb3⟩
        have HR3 := Lib.hid ((HR1.out).later hb3)
        go_wp2_with fail
        go_at_call 19; refine (valid_any l _ _ _ (fun e he => by have := (HW.out) e he; omega) hle (HR3.out)).mono ?_; rintro e w4 ⟨rfl, hb4⟩; rw [HV.out]
        go_wp2_with fail
        go_ret
        exact ⟨rfl, below_then hb1 (below_then hb3 hb4)⟩
      · have HX : Hid (lookR l tok = (formsK l tok l.length, 0)) := by unfold lookR; rw [hv]; rfl
        have HRT : Hid (∀ k (hk : k < l.length), rightL l[k] = true) := fun k hk => valid_right hv hk
        have HV := Lib.hid hv; clear hv hl2
        go_enter Tryd.func5, Tryd.ntmps5
        go_wp2_with fail
        go_at_call 12; refine (awake_any _).mono ?_; rintro e w1 ⟨rfl, hb1⟩
        have HR1 := Lib.hid ((HR.out).later hb1)
        go_wp2_with fail
        go_at_call 17; refine (small_any l _ _ _ (HR1.out) HS.out).mono ?_; rintro e w2 ⟨rfl, rfl⟩; rw [HSM.out]
        go_wp2_with fail
        go_at_call 18; refine (look_any l tok _ _ _ HW.out hle (HR1.out)).mono ?_; rw [HX.out]; rintro e w3 ⟨A3, c3, rfl, hlc3, hF3, hb3⟩
        have HR3 := Lib.hid ((HR1.out).later hb3)
        go_wp2_with fail
        go_at_call 19; refine (valid_any l _ _ _ (fun e he => by have := (HW.out) e he; omega) hle (HR3.out)).mono ?_; rintro e w4 ⟨rfl, hb4⟩; rw [HV.out]
        have HF := Lib.hid (hF3.later hb4); have HR4 := Lib.hid ((HR3.out).later hb4); have HB4 := Lib.hid (below_then hb1 (below_then hb3 hb4)); clear hF3 hb1 hb3 hb4 HR1 HR3
        go_wp2_with fail
        have hFl := formsK_len l tok l.length
        go_loopw [7, 8, 9, 10, 11] (fun n i _ _ _ wr => ∃ k : Nat, k ≤ l.length ∧ i = .int .i64 k ∧ n = .int .i64 (formsK l tok k).length ∧ Below w4.heap.size w4 wr) (fun _ i _ _ _ _ => l.length - (intOf i).toNat)
        case atStart => exact ⟨0, Nat.zero_le _, rfl, rfl, Below.refl _ _⟩
        case round =>
          obtain ⟨k, hk, rfl, rfl, hbl⟩ := hrel
          have hkl := formsK_len l tok k
          by_cases hlt : k < l.length
          · obtain ⟨b, off, rfl, hB, h0, h1, h2⟩ := ((HR4.out).below hbl).ent hlt
            have hxl : (l[k]).1.length ≤ 1048576 := (HW.out) _ (List.getElem_mem hlt)
            have hrt := (HRT.out) k hlt
            have HHIT : Hid (hitE tok l[k] = true → (formsK l tok k).length < (formsK l tok l.length).length ∧ (formsK l tok l.length)[(formsK l tok k).length]? = some (k, !(tok == l[k].1)) ∧ (formsK l tok (k + 1)).length = (formsK l tok k).length + 1) := fun h => found_hit hlt h
            have HMISS : Hid (hitE tok l[k] = false → (formsK l tok (k + 1)).length = (formsK l tok k).length) := fun h => found_miss hlt h
            have hBr : b < wr.heap.size := Nat.lt_of_lt_of_le hB hbl.size
            generalize l[k] = e at h0 h1 h2 hxl hrt HHIT HMISS
            obtain ⟨x, ct, sy⟩ := e
            simp only at h0 h1 h2 hxl HHIT HMISS
            have e4 := u8_beq4 ct
            have e5 := u8_beq5 ct
            have HRT2 := Lib.hid hrt; clear hrt
            cases h4 : (ct == 4)
            · cases h5 : (ct == 5)
              · have hvb : (ct == 4 || ct == 5) = false := by simp [h4, h5]
                have HH := Lib.hid (hit_else (tok := tok) (x := x) (sy := sy) hvb)
                cases m1 : (tok == x)
                · have hmiss : hitE tok (x, ct, sy) = false := by rw [HH.out, m1]
                  have HN3 := Lib.hid ((HMISS.out) hmiss)
                  go_wp2_with fail
                  go_at_call 20; refine (third_any x _ (by omega)).mono ?_; rintro e w5 ⟨rfl, hb5⟩;  obtain ⟨kc, kf⟩ := bcell hb5; have kb := hb5.size
                  have ch0 := (kc _ _ hBr).trans h0
                  go_wp2_with fail
                  go_roundw
                  case rel => exact ⟨k + 1, by omega, by go_num, by rw [HN3.out], hbl.trans (Below.mono hb5 hbl.size)⟩
                  case measure => simp [intOf]; omega
                · have hhit : hitE tok (x, ct, sy) = true := by rw [HH.out, m1]
                  obtain ⟨hn1, hn2, hn3⟩ := (HHIT.out) hhit
                  rw [m1] at hn2
                  obtain ⟨bf, of, hA, hBf, c0, c1⟩ := ((HF.out).below hbl).form hn1 hn2
                  cases hA
                  have hBfr : bf < wr.heap.size := Nat.lt_of_lt_of_le hBf hbl.size
                  have hne : (((formsK l tok k).length : Int) == ((formsK l tok l.length).length : Int)) = false := by rw [beq_eq_false_iff_ne]; omega
                  have HN3 := Lib.hid hn3; clear hn3 hn2
                  go_wp2_with fail
                  go_at_call 20; refine (third_any x _ (by omega)).mono ?_; rintro e w5 ⟨rfl, hb5⟩;  obtain ⟨kc, kf⟩ := bcell hb5; have kb := hb5.size
                  go_wp2_with fail
                  have cc0 := (kc _ _ hBfr).trans c0; have cc1 := (kc _ _ hBfr).trans c1; have ch0 := (kc _ _ hBr).trans h0
                  go_quiet (fail)
                  go_wp2_with fail
                  go_roundw
                  case rel => exact ⟨k + 1, by omega, by go_num, by rw [HN3.out]; go_num, below_drewN (hbl.trans (Below.mono hb5 hbl.size)) _⟩
                  case measure => simp [intOf]; omega
              · have hpl : plainL x = true := right_plain HRT2.out (by rintro rfl; simp at h5)
                have hvb : (ct == 4 || ct == 5) = true := by simp [h5]
                have HT3 : Hid (thirdR x = (thirdL x, 0)) := by unfold thirdR; rw [if_pos hpl]; rfl
                have hnx := (third_ne x).1
                have HH := Lib.hid (hit_verb (tok := tok) (sy := sy) hvb hpl)
                generalize thirdL x = th at HT3 hnx HH
                cases m1 : (tok == x)
                · cases m2 : (tok == th)
                  · have hmiss : hitE tok (x, ct, sy) = false := by rw [HH.out, m1, m2]; rfl
                    have HN3 := Lib.hid ((HMISS.out) hmiss)
                    go_wp2_with fail
                    go_at_call 20; refine (third_any x _ (by omega)).mono ?_; rintro e w5 ⟨rfl, hb5⟩; rw [HT3.out]; obtain ⟨kc, kf⟩ := bcell hb5; have kb := hb5.size
                    have ch0 := (kc _ _ hBr).trans h0
                    go_wp2_with fail
                    go_roundw
                    case rel => exact ⟨k + 1, by omega, by go_num, by rw [HN3.out], hbl.trans (Below.mono hb5 hbl.size)⟩
                    case measure => simp [intOf]; omega
                  · have hhit : hitE tok (x, ct, sy) = true := by rw [HH.out, m1, m2]; rfl
                    obtain ⟨hn1, hn2, hn3⟩ := (HHIT.out) hhit
                    rw [m1] at hn2
                    obtain ⟨bf, of, hA, hBf, c0, c1⟩ := ((HF.out).below hbl).form hn1 hn2
                    cases hA
                    have hBfr : bf < wr.heap.size := Nat.lt_of_lt_of_le hBf hbl.size
                    have hne : (((formsK l tok k).length : Int) == ((formsK l tok l.length).length : Int)) = false := by rw [beq_eq_false_iff_ne]; omega
                    have HN3 := Lib.hid hn3; clear hn3 hn2
                    go_wp2_with fail
                    go_at_call 20; refine (third_any x _ (by omega)).mono ?_; rintro e w5 ⟨rfl, hb5⟩; rw [HT3.out]; obtain ⟨kc, kf⟩ := bcell hb5; have kb := hb5.size
                    go_wp2_with fail
                    have cc0 := (kc _ _ hBfr).trans c0; have cc1 := (kc _ _ hBfr).trans c1; have ch0 := (kc _ _ hBr).trans h0
                    go_quiet (fail)
                    go_wp2_with fail
                    go_roundw
                    case rel => exact ⟨k + 1, by omega, by go_num, by rw [HN3.out]; go_num, below_drewN (hbl.trans (Below.mono hb5 hbl.size)) _⟩
                    case measure => simp [intOf]; omega
                · have hhit : hitE tok (x, ct, sy) = true := by rw [HH.out, m1]; rfl
                  obtain ⟨hn1, hn2, hn3⟩ := (HHIT.out) hhit
                  rw [m1] at hn2
                  obtain ⟨bf, of, hA, hBf, c0, c1⟩ := ((HF.out).below hbl).form hn1 hn2
                  cases hA
                  have hBfr : bf < wr.heap.size := Nat.lt_of_lt_of_le hBf hbl.size
                  have hne : (((formsK l tok k).length : Int) == ((formsK l tok l.length).length : Int)) = false := by rw [beq_eq_false_iff_ne]; omega
                  have HN3 := Lib.hid hn3; clear hn3 hn2
                  go_wp2_with fail
                  go_at_call 20; refine (third_any x _ (by omega)).mono ?_; rintro e w5 ⟨rfl, hb5⟩; rw [HT3.out]; obtain ⟨kc, kf⟩ := bcell hb5; have kb := hb5.size
                  go_wp2_with fail
                  have cc0 := (kc _ _ hBfr).trans c0; have cc1 := (kc _ _ hBfr).trans c1; have ch0 := (kc _ _ hBr).trans h0
                  go_quiet (fail)
                  go_wp2_with fail
                  go_roundw
                  case rel => exact ⟨k + 1, by omega, by go_num, by rw [HN3.out]; go_num, below_drewN (hbl.trans (Below.mono hb5 hbl.size)) _⟩
                  case measure => simp [intOf]; omega
            · have hpl : plainL x = true := right_plain HRT2.out (by rintro rfl; simp at h4)
              have hvb : (ct == 4 || ct == 5) = true := by simp [h4]
              have HT3 : Hid (thirdR x = (thirdL x, 0)) := by unfold thirdR; rw [if_pos hpl]; rfl
              have hnx := (third_ne x).1
              have HH := Lib.hid (hit_verb (tok := tok) (sy := sy) hvb hpl)
              generalize thirdL x = th at HT3 hnx HH
              cases m1 : (tok == x)
              · cases m2 : (tok == th)
                · have hmiss : hitE tok (x, ct, sy) = false := by rw [HH.out, m1, m2]; rfl
                  have HN3 := Lib.hid ((HMISS.out) hmiss)
                  go_wp2_with fail
                  go_at_call 20; refine (third_any x _ (by omega)).mono ?_; rintro e w5 ⟨rfl, hb5⟩; rw [HT3.out]; obtain ⟨kc, kf⟩ := bcell hb5; have kb := hb5.size
                  have ch0 := (kc _ _ hBr).trans h0
                  go_wp2_with fail
                  go_roundw
                  case rel => exact ⟨k + 1, by omega, by go_num, by rw [HN3.out], hbl.trans (Below.mono hb5 hbl.size)⟩
                  case measure => simp [intOf]; omega
                · have hhit : hitE tok (x, ct, sy) = true := by rw [HH.out, m1, m2]; rfl
                  obtain ⟨hn1, hn2, hn3⟩ := (HHIT.out) hhit
                  rw [m1] at hn2
                  obtain ⟨bf, of, hA, hBf, c0, c1⟩ := ((HF.out).below hbl).form hn1 hn2
                  cases hA
                  have hBfr : bf < wr.heap.size := Nat.lt_of_lt_of_le hBf hbl.size
                  have hne : (((formsK l tok k).length : Int) == ((formsK l tok l.length).length : Int)) = false := by rw [beq_eq_false_iff_ne]; omega
                  have HN3 := Lib.hid hn3; clear hn3 hn2
                  go_wp2_with fail
                  go_at_call 20; refine (third_any x _ (by omega)).mono ?_; rintro e w5 ⟨rfl, hb5⟩; rw [HT3.out]; obtain ⟨kc, kf⟩ := bcell hb5; have kb := hb5.size
                  go_wp2_with fail
                  have cc0 := (kc _ _ hBfr).trans c0; have cc1 := (kc _ _ hBfr).trans c1; have ch0 := (kc _ _ hBr).trans h0
                  go_quiet (fail)
                  go_wp2_with fail
                  go_roundw
                  case rel => exact ⟨k + 1, by omega, by go_num, by rw [HN3.out]; go_num, below_drewN (hbl.trans (Below.mono hb5 hbl.size)) _⟩
                  case measure => simp [intOf]; omega
              · have hhit : hitE tok (x, ct, sy) = true := by rw [HH.out, m1]; rfl
                obtain ⟨hn1, hn2, hn3⟩ := (HHIT.out) hhit
                rw [m1] at hn2
                obtain ⟨bf, of, hA, hBf, c0, c1⟩ := ((HF.out).below hbl).form hn1 hn2
                cases hA
                have hBfr : bf < wr.heap.size := Nat.lt_of_lt_of_le hBf hbl.size
                have hne : (((formsK l tok k).length : Int) == ((formsK l tok l.length).length : Int)) = false := by rw [beq_eq_false_iff_ne]; omega
                have HN3 := Lib.hid hn3; clear hn3 hn2
                go_wp2_with fail
                go_at_call 20; refine (third_any x _ (by omega)).mono ?_; rintro e w5 ⟨rfl, hb5⟩; rw [HT3.out]; obtain ⟨kc, kf⟩ := bcell hb5; have kb := hb5.size
                go_wp2_with fail
                have cc0 := (kc _ _ hBfr).trans c0; have cc1 := (kc _ _ hBfr).trans c1; have ch0 := (kc _ _ hBr).trans h0
                go_quiet (fail)
                go_wp2_with fail
                go_roundw
                case rel => exact ⟨k + 1, by omega, by go_num, by rw [HN3.out]; go_num, below_drewN (hbl.trans (Below.mono hb5 hbl.size)) _⟩
                case measure => simp [intOf]; omega
          · obtain rfl : k = l.length := by omega
            go_wp2_with fail
            go_ret
            exact ⟨rfl, below_then HB4.out hbl⟩
    · clear hl2
      go_enter Tryd.func5, Tryd.ntmps5
      go_wp2_with fail
      go_at_call 12; refine (awake_any _).mono ?_; rintro e w1 ⟨rfl, hb1⟩
      go_wp2_with fail
      go_at_call 17; refine (small_any l _ _ _ ((HR.out).later hb1) HS.out).mono ?_; rintro e w2 ⟨rfl, rfl⟩; rw [HSM.out]
      go_wp2_with fail
      go_ret
      exact ⟨rfl, hb1⟩
end Go.Proofs.YtbbgieopcmjoeaaDoor
