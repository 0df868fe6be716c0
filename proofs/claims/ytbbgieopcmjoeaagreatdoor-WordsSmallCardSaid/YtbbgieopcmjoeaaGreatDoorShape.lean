/- package words: which tokens are those of a sentence. -/
import Derived.Test.YtbbgieopcmjoeaaGreatDoorTokens
namespace Go.Proofs.YtbbgieopcmjoeaaGreatDoor
open Go.RowKit
theorem Reads.at1 {w : World} {B n : Nat} {A : Option Addr} {xs : List Value} {k : Nat} {u : Value} (h : Reads w B 1 A n xs) (hk : k < n) (hu : xs[k]? = some u) : ∃ b off, A = some ⟨b, off, none⟩ ∧ b < B ∧ w.cell? ⟨b, off + k, none⟩ = some u := by
  obtain ⟨ad, e, hb, hc⟩ := h.2 (by omega)
  have h0 := hc k u hu
  have hs : ad.spot = none := by
    have hl := h.1
    have h0 := hc 0 xs[0] (List.getElem?_eq_getElem (by omega))
    exact World.cell?_spot (by simpa [Addr.add] using h0)
  obtain ⟨b, off, spot⟩ := ad
  obtain rfl : spot = none := hs
  rw [addr_add] at h0
  exact ⟨b, off, e, hb, h0⟩
theorem shape1_any (t : List UInt8) (w : World) : Calls Tryz.prog 106 #[str t] w fun e w' => e = .returned (.bool (t == [46])) ∧ w = w' := by
  go_enter Tryz.func106, Tryz.ntmps106
  go_wp2_with fail
  go_ret
  exact ⟨by simp, rfl⟩
def tokOk (t : List UInt8) : Bool := t == [44] || (t == [46] || wordL t)
theorem shape2_any (t : List UInt8) (w : World) (hm : t.length ≤ 140737488355328) : Calls Tryz.prog 107 #[str t] w fun e w' => e = .returned (.bool (!tokOk t)) ∧ Below w.heap.size w w' := by
  cases h1 : (t == [44])
  · cases h2 : (t == [46])
    · have HF : Hid ((!tokOk t) = !wordL t) := by unfold tokOk; rw [h1, h2]; rfl
      go_enter Tryz.func107, Tryz.ntmps107
      go_wp2_with (go_at_call 104; refine (word_any _ _ hm).mono ?_; rintro e w' ⟨rfl, hb⟩)
      go_ret
      exact ⟨ret_bool (by rw [HF.out]), hb⟩
    · have HF : Hid ((!tokOk t) = false) := by unfold tokOk; rw [h1, h2]; rfl
      go_enter Tryz.func107, Tryz.ntmps107
      go_wp2_with fail
      go_ret
      exact ⟨ret_bool (by rw [HF.out]), Below.refl _ _⟩
  · have HF : Hid ((!tokOk t) = false) := by unfold tokOk; rw [h1]; rfl
    go_enter Tryz.func107, Tryz.ntmps107
    go_wp2_with fail
    go_ret
    exact ⟨ret_bool (by rw [HF.out]), Below.refl _ _⟩
theorem enters_shape1 : Enters Tryz.prog 106 := enters_of Tryz.func106 (by kernel_rfl) rfl
theorem enters_shape2 : Enters Tryz.prog 107 := enters_of Tryz.func107 (by kernel_rfl) rfl
set_option maxRecDepth 100000 in
theorem find_string (A : Option Addr) (n c : Nat) (xs : List Value) (g : Nat) (eg : Enters Tryz.prog g) (caps : List Value) (p : Nat → Bool) (w : World) (hm : n ≤ 140737488355328)
    (hr : Reads w w.heap.size 1 A n xs) (hp : Pred g caps (fun i => xs.getD i undef) n p w) :
    Calls Tryz.prog 105 #[.slice A n c, .func (.func g) #[] caps.toArray] w fun e w' => e = .returned (.int .i64 (firstIdx p n)) ∧ Below w.heap.size w w' := by
  have HI := Lib.hid (indexFunc_string A n c xs g eg caps p w hm hr hp)
  have hle := firstIdx_le p n
  clear hr hp eg
  by_cases hlt : firstIdx p n < n
  · have HV : Hid (idxV p n = .int .i64 (firstIdx p n)) := by unfold idxV; rw [if_pos hlt]; rfl
    go_enter Tryz.func105, Tryz.ntmps105
    go_wp2_with (go_at_call 117; refine (HI.out).mono ?_; rintro e w' ⟨rfl, hb'⟩; rw [HV.out])
    go_ret
    exact ⟨rfl, hb'⟩
  · have HV : Hid (idxV p n = .int .i64 (-1)) := by unfold idxV; rw [if_neg hlt]; rfl
    have hn : n = firstIdx p n := by omega
    have HN := Lib.hid hn; clear hn
    go_enter Tryz.func105, Tryz.ntmps105
    go_wp2_with (go_at_call 117; refine (HI.out).mono ?_; rintro e w' ⟨rfl, hb'⟩; rw [HV.out])
    go_ret
    exact ⟨ret_int (by rw [← HN.out]), hb'⟩
def atT (q : List UInt8 → Bool) (l : List (List UInt8)) (i : Nat) : Bool := (l[i]?.map q).getD false
theorem any_atT (q : List UInt8 → Bool) (l : List (List UInt8)) : anyIdx (atT q l) l.length = l.any q := anyIdx_list q l _ fun i hi => by simp [atT, hi]
theorem pred_str {g : Nat} {q : List UInt8 → Bool} (l : List (List UInt8)) (h : ∀ t ∈ l, ∀ (W : World), Calls Tryz.prog g #[str t] W fun e w' => e = .returned (.bool (q t)) ∧ Below W.heap.size W w') (w : World) :
    Pred g [] (fun i => (l.map str).getD i undef) l.length (atT q l) w := fun i hi W _ => by
  have e1 : (l.map str).getD i undef = str l[i] := by simp [hi]
  have e2 : atT q l i = q l[i] := by simp [atT, hi]
  show Calls Tryz.prog g #[(l.map str).getD i undef] W _
  rw [e1, e2]
  exact h l[i] (List.getElem_mem hi) W
/-- Where the first period stands. -/
def dotAt (l : List (List UInt8)) : Nat := firstIdx (atT (fun t => t == [46]) l) l.length
def shapeL (l : List (List UInt8)) : Bool := match l with
  | [] => false
  | t :: r => wordL t && ((isFn t || !isFn (lowL t)) && (((dotAt (t :: r) : Int) == ((t :: r).length : Int) - 1) && (t :: r).all tokOk))
theorem dot_any (l : List (List UInt8)) (A : Option Addr) (c : Nat) (W : World) (hl : l.length ≤ 1048576) (hr : Reads W W.heap.size 1 A l.length (l.map str)) :
    Calls Tryz.prog 105 #[.slice A l.length c, .func (.func 106) #[] #[]] W fun e w' => e = .returned (.int .i64 (dotAt l)) ∧ Below W.heap.size W w' :=
  find_string A l.length c _ 106 enters_shape1 [] _ W (by omega) hr (pred_str l (fun t _ W => (shape1_any t W).mono fun e w' ⟨a, b⟩ => ⟨a, b ▸ Below.refl _ _⟩) W)
theorem any_not_all {α : Type} (q : α → Bool) (l : List α) : (l.any fun t => !q t) = !l.all q := by induction l <;> simp_all
theorem allok_any (l : List (List UInt8)) (A : Option Addr) (c : Nat) (W : World) (hl : l.length ≤ 1048576) (ht : ∀ t ∈ l, t.length ≤ 1048576) (hr : Reads W W.heap.size 1 A l.length (l.map str)) :
    Calls Tryz.prog 91 #[.slice A l.length c, .func (.func 107) #[] #[]] W fun e w' => e = .returned (.bool (!l.all tokOk)) ∧ Below W.heap.size W w' := by
  have h := containsFunc_string A l.length c _ 107 enters_shape2 [] _ W (by omega) hr (pred_str l (fun t h W => shape2_any t W (by have := ht t h; omega)) W)
  rw [any_atT] at h
  rw [any_not_all] at h
  exact h
theorem wordL_all {t : List UInt8} (h : wordL t = true) : t.all letU = true := by
  unfold wordL at h; rw [Bool.and_eq_true] at h; exact h.2
set_option maxRecDepth 100000 in
set_option maxHeartbeats 1600000 in
theorem shape_any (l : List (List UInt8)) (A : Option Addr) (c : Nat) (w : World) (hl : l.length ≤ 1048576) (ht : ∀ t ∈ l, t.length ≤ 1048576) (hr : Reads w w.heap.size 1 A l.length (l.map str)) :
    Calls Tryz.prog 66 #[.slice A l.length c] w fun e w' => e = .returned (.bool (shapeL l)) ∧ Below w.heap.size w w' := by
  cases hl0 : l with
  | nil =>
    go_enter Tryz.func66, Tryz.ntmps66
    go_wp2_with fail
    go_ret
    exact ⟨rfl, Below.refl _ _⟩
  | cons t r =>
    rw [← hl0]
    have hn : 0 < l.length := by rw [hl0]; simp
    have hti : (0 : Int) < (l.length : Int) := by omega
    have htd : decide (0 < (l.length : Int)) = true := by simp; omega
    have htm : t.length ≤ 1048576 := ht t (by rw [hl0]; simp)
    obtain ⟨b, off, rfl, hB, hc⟩ := hr.at1 (u := str t) hn (by rw [hl0]; rfl)
    simp only [Nat.add_zero] at hc
    have hS : shapeL l = (wordL t && ((isFn t || !isFn (lowL t)) && (((dotAt l : Int) == (l.length : Int) - 1) && l.all tokOk))) := by rw [hl0]; rfl
    have HS := Lib.hid hS; clear hS
    have HR := Lib.hid hr; clear hr
    have HT := Lib.hid ht; clear ht
    have HL := Lib.hid hl0; clear hl0
    cases hw : wordL t
    · have HW := Lib.hid hw; clear hw
      go_enter Tryz.func66, Tryz.ntmps66
      go_wp2_with (go_at_call 104; refine (word_any _ _ (by omega)).mono ?_; rintro e w1 ⟨rfl, hb1⟩; rw [HW.out])
      go_ret
      exact ⟨ret_bool (by rw [HS.out, HW.out]; rfl), hb1⟩
    · have HA := Lib.hid (wordL_all hw)
      have HW := Lib.hid hw; clear hw
      have hBw := Below.refl w.heap.size w
      cases f1 : isFn t
      · have F1 := Lib.hid f1; clear f1
        cases f2 : isFn (lowL t)
        · have F2 := Lib.hid f2; clear f2
          cases hd : ((dotAt l : Int) == (l.length : Int) - 1)
          · have HD := Lib.hid hd
            go_enter Tryz.func66, Tryz.ntmps66
            go_wp2_with (first
              | (go_at_call 104; refine (word_any _ _ (by omega)).mono ?_; rintro e wa ⟨rfl, hbn⟩; rw [HW.out]; replace hBw := below_then hBw hbn; clear hbn; have hcn := (hBw.cell (p := ⟨b, off, none⟩) hB).trans hc)
              | (go_at_call 35; refine (function_any _ _).mono ?_; rintro e wb ⟨rfl, hbn⟩; (first | rw [F1.out] | rw [F2.out]); replace hBw := below_then hBw hbn; clear hbn; have hcn := (hBw.cell (p := ⟨b, off, none⟩) hB).trans hc)
              | (go_at_call 65; refine (lower_any t _ HA.out htm).mono ?_; rintro e wc ⟨rfl, hbn⟩; replace hBw := below_then hBw hbn; clear hbn; have hcn := (hBw.cell (p := ⟨b, off, none⟩) hB).trans hc)
              | (go_at_call 105; refine (dot_any l _ c _ hl ((HR.out).later hBw)).mono ?_; rintro e wd ⟨rfl, hbn⟩; replace hBw := below_then hBw hbn; clear hbn; have hcn := (hBw.cell (p := ⟨b, off, none⟩) hB).trans hc))
            go_ret
            exact ⟨ret_bool (by rw [HS.out, HW.out, F1.out, F2.out, HD.out]; rfl), hBw⟩
          · have HD := Lib.hid hd
            go_enter Tryz.func66, Tryz.ntmps66
            go_wp2_with (first
              | (go_at_call 104; refine (word_any _ _ (by omega)).mono ?_; rintro e wa ⟨rfl, hbn⟩; rw [HW.out]; replace hBw := below_then hBw hbn; clear hbn; have hcn := (hBw.cell (p := ⟨b, off, none⟩) hB).trans hc)
              | (go_at_call 35; refine (function_any _ _).mono ?_; rintro e wb ⟨rfl, hbn⟩; (first | rw [F1.out] | rw [F2.out]); replace hBw := below_then hBw hbn; clear hbn; have hcn := (hBw.cell (p := ⟨b, off, none⟩) hB).trans hc)
              | (go_at_call 65; refine (lower_any t _ HA.out htm).mono ?_; rintro e wc ⟨rfl, hbn⟩; replace hBw := below_then hBw hbn; clear hbn; have hcn := (hBw.cell (p := ⟨b, off, none⟩) hB).trans hc)
              | (go_at_call 105; refine (dot_any l _ c _ hl ((HR.out).later hBw)).mono ?_; rintro e wd ⟨rfl, hbn⟩; replace hBw := below_then hBw hbn; clear hbn; have hcn := (hBw.cell (p := ⟨b, off, none⟩) hB).trans hc)
              | (go_at_call 91; refine (allok_any l _ c _ hl HT.out ((HR.out).later hBw)).mono ?_; rintro e we ⟨rfl, hbn⟩; replace hBw := below_then hBw hbn; clear hbn; have hcn := (hBw.cell (p := ⟨b, off, none⟩) hB).trans hc))
            go_ret
            exact ⟨ret_bool (by rw [HS.out, HW.out, F1.out, F2.out, HD.out]; simp), hBw⟩
        · have F2 := Lib.hid f2; clear f2
          go_enter Tryz.func66, Tryz.ntmps66
          go_wp2_with (first
            | (go_at_call 104; refine (word_any _ _ (by omega)).mono ?_; rintro e wa ⟨rfl, hbn⟩; rw [HW.out]; replace hBw := below_then hBw hbn; clear hbn; have hcn := (hBw.cell (p := ⟨b, off, none⟩) hB).trans hc)
            | (go_at_call 35; refine (function_any _ _).mono ?_; rintro e wb ⟨rfl, hbn⟩; (first | rw [F1.out] | rw [F2.out]); replace hBw := below_then hBw hbn; clear hbn; have hcn := (hBw.cell (p := ⟨b, off, none⟩) hB).trans hc)
            | (go_at_call 65; refine (lower_any t _ HA.out htm).mono ?_; rintro e wc ⟨rfl, hbn⟩; replace hBw := below_then hBw hbn; clear hbn; have hcn := (hBw.cell (p := ⟨b, off, none⟩) hB).trans hc))
          go_ret
          exact ⟨ret_bool (by rw [HS.out, HW.out, F1.out, F2.out]; rfl), hBw⟩
      · have F1 := Lib.hid f1
        have F2 := Lib.hid f1; clear f1
        cases hd : ((dotAt l : Int) == (l.length : Int) - 1)
        · have HD := Lib.hid hd
          go_enter Tryz.func66, Tryz.ntmps66
          go_wp2_with (first
            | (go_at_call 104; refine (word_any _ _ (by omega)).mono ?_; rintro e wa ⟨rfl, hbn⟩; rw [HW.out]; replace hBw := below_then hBw hbn; clear hbn; have hcn := (hBw.cell (p := ⟨b, off, none⟩) hB).trans hc)
            | (go_at_call 35; refine (function_any _ _).mono ?_; rintro e wb ⟨rfl, hbn⟩; (first | rw [F1.out] | rw [F2.out]); replace hBw := below_then hBw hbn; clear hbn; have hcn := (hBw.cell (p := ⟨b, off, none⟩) hB).trans hc)
            | (go_at_call 105; refine (dot_any l _ c _ hl ((HR.out).later hBw)).mono ?_; rintro e wd ⟨rfl, hbn⟩; replace hBw := below_then hBw hbn; clear hbn; have hcn := (hBw.cell (p := ⟨b, off, none⟩) hB).trans hc))
          go_ret
          exact ⟨ret_bool (by rw [HS.out, HW.out, F1.out, HD.out]; rfl), hBw⟩
        · have HD := Lib.hid hd
          go_enter Tryz.func66, Tryz.ntmps66
          go_wp2_with (first
            | (go_at_call 104; refine (word_any _ _ (by omega)).mono ?_; rintro e wa ⟨rfl, hbn⟩; rw [HW.out]; replace hBw := below_then hBw hbn; clear hbn; have hcn := (hBw.cell (p := ⟨b, off, none⟩) hB).trans hc)
            | (go_at_call 35; refine (function_any _ _).mono ?_; rintro e wb ⟨rfl, hbn⟩; (first | rw [F1.out] | rw [F2.out]); replace hBw := below_then hBw hbn; clear hbn; have hcn := (hBw.cell (p := ⟨b, off, none⟩) hB).trans hc)
            | (go_at_call 105; refine (dot_any l _ c _ hl ((HR.out).later hBw)).mono ?_; rintro e wd ⟨rfl, hbn⟩; replace hBw := below_then hBw hbn; clear hbn; have hcn := (hBw.cell (p := ⟨b, off, none⟩) hB).trans hc)
            | (go_at_call 91; refine (allok_any l _ c _ hl HT.out ((HR.out).later hBw)).mono ?_; rintro e we ⟨rfl, hbn⟩; replace hBw := below_then hBw hbn; clear hbn; have hcn := (hBw.cell (p := ⟨b, off, none⟩) hB).trans hc))
          go_ret
          exact ⟨ret_bool (by rw [HS.out, HW.out, F1.out, HD.out]; simp), hBw⟩
end Go.Proofs.YtbbgieopcmjoeaaGreatDoor
