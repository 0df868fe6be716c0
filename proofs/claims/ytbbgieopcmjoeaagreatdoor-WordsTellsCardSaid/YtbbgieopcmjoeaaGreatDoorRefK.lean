/- package lyceumref33: Remove, Look. -/
import Derived.Test.YtbbgieopcmjoeaaGreatDoorRefJ
import Derived.Test.YtbbgieopcmjoeaaGreatDoorRefB
import Derived.Test.YtbbgieopcmjoeaaGreatDoorLawFound
namespace Go.Proofs.YtbbgieopcmjoeaaGreatDoor
open Go.RowKit
def filK (l : List Ent) (tok : List UInt8) (ct : UInt8) (k : Nat) : List Ent := (l.take k).filter fun o => !isE tok ct o
theorem filK_yes {l : List Ent} {tok : List UInt8} {ct : UInt8} {k : Nat} {o : Ent} (hk : k < l.length) (ho : l[k] = o) (h : isE tok ct o = false) : filK l tok ct (k + 1) = filK l tok ct k ++ [o] := by
  unfold filK
  rw [List.take_succ_eq_append_getElem hk, List.filter_append, ho]
  simp [h]
theorem filK_no {l : List Ent} {tok : List UInt8} {ct : UInt8} {k : Nat} {o : Ent} (hk : k < l.length) (ho : l[k] = o) (h : isE tok ct o = true) : filK l tok ct (k + 1) = filK l tok ct k := by
  unfold filK
  rw [List.take_succ_eq_append_getElem hk, List.filter_append, ho]
  simp [h]
theorem filK_len (l : List Ent) (tok : List UInt8) (ct : UInt8) (k : Nat) : (filK l tok ct k).length ≤ k := by
  unfold filK
  refine Nat.le_trans (List.length_filter_le _ _) ?_
  simp; omega
theorem filK_all (l : List Ent) (tok : List UInt8) (ct : UInt8) : filK l tok ct l.length = l.filter fun o => !isE tok ct o := by unfold filK; rw [List.take_length]
theorem u8_bneq (a b : UInt8) : ((a.toNat : Int) != (b.toNat : Int)) = !(a == b) := by rw [bne, u8_eqq]
set_option maxRecDepth 100000 in
set_option maxHeartbeats 3200000 in
theorem rremove_any (l : List Ent) (tok : List UInt8) (ct : UInt8) (A : Option Addr) (c : Nat) (w : World) (hl : l.length ≤ 1048576) (hw : ∀ e ∈ l, e.1.length ≤ 1048576 ∧ e.2.2.length ≤ 1048576) (hr : Reads w w.heap.size 3 A l.length (flat l)) :
    Calls Tryz.prog 21 #[.slice A l.length c, str tok, byteV ct] w (RdPost w (removeR l tok ct).1 (removeR l tok ct).2) := by
  have HR := Lib.hid hr; clear hr
  have HW := Lib.hid hw; clear hw
  cases hv : validL l
  · have HX := Lib.hid (show removeR l tok ct = ([], 2) by unfold removeR; rw [hv]; rfl)
    have HV := Lib.hid hv; clear hv
    rw [HX.out]
    go_enter Tryz.func21, Tryz.ntmps21
    go_wp2_with (go_at_call 23; refine (rvalid_any l A c _ hl HW.out HR.out).mono ?_; rintro e w1 ⟨rfl, hb1⟩; rw [HV.out])
    go_ret2
    exact RdPost.none_ 2 hb1
  · have HX := Lib.hid (rremove_eq hv tok ct)
    rw [← filK_all] at HX
    have hl1 := ((valid_iff l).1 hv).1
    have HV := Lib.hid hv; clear hv
    obtain ⟨i0, hi, hz0, hz1, hz2⟩ := info_parts infoEntR
    go_enter Tryz.func21, Tryz.ntmps21
    go_wp2_with (go_at_call 23; refine (rvalid_any l A c _ hl HW.out HR.out).mono ?_; rintro e w1 ⟨rfl, hb1⟩; rw [HV.out])
    go_loopw [8, 9] (fun v i wr => ∃ k : Nat, k ≤ l.length ∧ i = .int .i64 k ∧ wr.ownsRow w.heap.size 46 3 v (filK l tok ct k).length (flat (filK l tok ct k)) ∧ Below w.heap.size w wr) (fun _ i _ => l.length - (intOf i).toNat)
    case atStart => exact ⟨0, Nat.zero_le _, rfl, World.ownsRow_nil _ _ _ _, hb1⟩
    case round =>
      obtain ⟨k, hk, rfl, hrow, hb⟩ := hrel
      have hpl := filK_len l tok ct k
      have hbs := hb.size
      by_cases hlt : k < l.length
      · obtain ⟨b, off, rfl, hB, h0, h1, h2⟩ := ((HR.out).below hb).ent hlt
        have HY := Lib.hid (fun h => filK_yes (tok := tok) (ct := ct) hlt rfl h)
        have HN := Lib.hid (fun h => filK_no (tok := tok) (ct := ct) hlt rfl h)
        generalize l[k] = oo at h0 h1 h2 HY HN
        obtain ⟨ox, oc, osy⟩ := oo
        have hu := u8_bneq oc ct
        have HROW := Lib.hid hrow; clear hrow
        have HB := Lib.hid hb
        cases hx : (ox == tok)
        · have HF := Lib.hid (HY.out (show isE tok ct (ox, oc, osy) = false by unfold isE; simp only [hx]; rfl))
          skip
          go_wp2_with (at_builtin; refine wpList_append_own _ rfl _ _ 42 rfl w.heap.size 46 i0 (.agg #[.string ⟨#[]⟩, .int .u8 0, .string ⟨#[]⟩]) 3 40 Tryz.underlying42 hi hz0 hz1 hz2 rfl (by decide) _ _ _ rfl ((HROW.out).alloc _) ⟨wr.heap.size, 0, none⟩ 1 1 [str ox, byteV oc, str osy] rfl rfl ?ax1 ?bx1 ?cx1 ?dx1 ?ex1 ?_)
          try (case ax1 => first | exact three_new _ _ rfl _ _ _ _ | exact three_new _ _ (by simp) _ _ _ _)
          case bx1 => simp [Value.oneCell']
          case cx1 => (unfold maxLen; omega)
          case dx1 => omega
          case ex1 => (have := (HB.out).size; first | omega | (simp; omega))
          intro v5 w5 hownx1 hgrowx1 _
          have HGx1 := Lib.hid (((HB.out).alloc (by have := (HB.out).size; first | omega | (simp; omega)) (.cells #[str ox, byteV oc, str osy] 46)).grown hgrowx1 (by have := (HB.out).size; first | omega | (simp; omega)) (own_ge (HROW.out)))
          have HRx1 := Lib.hid (rowE_put (f := (ox, oc, osy)) hownx1 (by simp))
          clear hgrowx1 hownx1
          go_wp2_with fail
          go_roundw
          case rel => exact ⟨k + 1, by omega, by go_num, by rw [HF.out]; exact HRx1.out, HGx1.out⟩
          case measure => simp [intOf]; omega
        · cases hc : (oc == ct)
          · have HF := Lib.hid (HY.out (show isE tok ct (ox, oc, osy) = false by unfold isE; simp only [hx, hc]; rfl))
            rw [hc] at hu
            go_wp2_with (at_builtin; refine wpList_append_own _ rfl _ _ 42 rfl w.heap.size 46 i0 (.agg #[.string ⟨#[]⟩, .int .u8 0, .string ⟨#[]⟩]) 3 40 Tryz.underlying42 hi hz0 hz1 hz2 rfl (by decide) _ _ _ rfl ((HROW.out).alloc _) ⟨wr.heap.size, 0, none⟩ 1 1 [str ox, byteV oc, str osy] rfl rfl ?ax2 ?bx2 ?cx2 ?dx2 ?ex2 ?_)
            try (case ax2 => first | exact three_new _ _ rfl _ _ _ _ | exact three_new _ _ (by simp) _ _ _ _)
            case bx2 => simp [Value.oneCell']
            case cx2 => (unfold maxLen; omega)
            case dx2 => omega
            case ex2 => (have := (HB.out).size; first | omega | (simp; omega))
            intro v5 w5 hownx2 hgrowx2 _
            have HGx2 := Lib.hid (((HB.out).alloc (by have := (HB.out).size; first | omega | (simp; omega)) (.cells #[str ox, byteV oc, str osy] 46)).grown hgrowx2 (by have := (HB.out).size; first | omega | (simp; omega)) (own_ge (HROW.out)))
            have HRx2 := Lib.hid (rowE_put (f := (ox, oc, osy)) hownx2 (by simp))
            clear hgrowx2 hownx2
            go_wp2_with fail
            go_roundw
            case rel => exact ⟨k + 1, by omega, by go_num, by rw [HF.out]; exact HRx2.out, HGx2.out⟩
            case measure => simp [intOf]; omega
          · have HF := Lib.hid (HN.out (show isE tok ct (ox, oc, osy) = true by unfold isE; simp only [hx, hc]; rfl))
            rw [hc] at hu
            go_wp2_with fail
            go_roundw
            case rel => exact ⟨k + 1, by omega, by go_num, by rw [HF.out]; exact HROW.out, HB.out⟩
            case measure => simp [intOf]; omega
      · obtain rfl : k = l.length := by omega
        have HB := Lib.hid hb
        generalize filK l tok ct l.length = F at *
        obtain ⟨A7, c7, hv7, hc7, hr7⟩ := own_out hrow
        subst hv7
        have HRR := Lib.hid hr7; clear hr7 hrow
        by_cases hF : F.length = l.length
        · have HZ : Hid (removeR l tok ct = ([], 6)) := Lib.hid (by rw [HX.out, if_pos hF])
          have hq : ((F.length : Int) == (l.length : Int)) = true := by rw [hF]; simp
          clear hF
          go_wp2_with fail
          go_ret2
          rw [HZ.out]
          exact RdPost.none_ 6 HB.out
        · have HZ : Hid (removeR l tok ct = (F, 0)) := Lib.hid (by rw [HX.out, if_neg hF])
          have hq : ((F.length : Int) == (l.length : Int)) = false := by rw [beq_eq_false_iff_ne]; omega
          clear hF
          go_wp2_with fail
          go_ret2
          rw [HZ.out]
          exact ⟨A7, c7, rfl, hc7, Reads.of_own HRR.out, HB.out⟩
theorem infoFormR : (Tryz.prog.info? 54).map (fun i => (i.zero, i.size, i.bytes)) = some (some (.agg #[.int .i64 0, .bool false]), 2, 16) := by kernel_rfl
theorem rlook_verb {x sy : List UInt8} {ct : UInt8} (h : rightL (x, ct, sy) = true) (h4 : (4 : Int) ≤ (ct.toNat : Int)) : (ct == 4 || ct == 5) = true ∧ plainL x = true := by
  unfold rightL at h
  have h3 : ct ≠ 3 := fun e => by subst e; simp at h4
  rw [if_neg h3] at h
  simp only [Bool.and_eq_true, decide_eq_true_eq, UInt8.le_iff_toNat_le] at h
  have h5 : ct.toNat ≤ 5 := by simpa using h.2.1
  refine ⟨?_, h.2.2.1⟩
  have : ct.toNat = 4 ∨ ct.toNat = 5 := by omega
  rcases this with e | e
  · rw [show ct = 4 from UInt8.toNat_inj.1 e]; rfl
  · rw [show ct = 5 from UInt8.toNat_inj.1 e]; rfl
theorem rlook_not {ct : UInt8} (h4 : ¬ (4 : Int) ≤ (ct.toNat : Int)) : (ct == 4 || ct == 5) = false := by
  cases h : (ct == 4 || ct == 5)
  · rfl
  · rw [Bool.or_eq_true, beq_iff_eq, beq_iff_eq] at h
    rcases h with rfl | rfl <;> simp at h4
theorem step_word {tok x sy : List UInt8} {ct : UInt8} {k : Nat} (h : (x == tok) = true) : (if hitE tok (x, ct, sy) then [(k, !(tok == x))] else []) = [(k, false)] := hit_word (by rw [Bool.beq_comm]; exact h)
theorem step_none {tok x sy : List UInt8} {ct : UInt8} {k : Nat} (h : (x == tok) = false) (h4 : (ct == 4 || ct == 5) = false) : (if hitE tok (x, ct, sy) then [(k, !(tok == x))] else []) = [] := by
  rw [hit_else h4, Bool.beq_comm (a := tok), h]; rfl
theorem step_third {tok x sy : List UInt8} {ct : UInt8} {k : Nat} (h : (x == tok) = false) (h4 : (ct == 4 || ct == 5) = true) (hp : plainL x = true) (h2 : (thirdL x == tok) = true) : (if hitE tok (x, ct, sy) then [(k, !(tok == x))] else []) = [(k, true)] := by
  rw [hit_verb h4 hp, Bool.beq_comm (a := tok), h, Bool.beq_comm (a := tok), h2]; rfl
theorem step_other {tok x sy : List UInt8} {ct : UInt8} {k : Nat} (h : (x == tok) = false) (h4 : (ct == 4 || ct == 5) = true) (hp : plainL x = true) (h2 : (thirdL x == tok) = false) : (if hitE tok (x, ct, sy) then [(k, !(tok == x))] else []) = [] := by
  rw [hit_verb h4 hp, Bool.beq_comm (a := tok), h, Bool.beq_comm (a := tok), h2]; rfl
set_option maxRecDepth 100000 in
set_option maxHeartbeats 3200000 in
theorem rlook_any (l : List Ent) (tok : List UInt8) (A : Option Addr) (c : Nat) (w : World) (hl : l.length ≤ 1048576) (hw : ∀ e ∈ l, e.1.length ≤ 1048576 ∧ e.2.2.length ≤ 1048576) (hr : Reads w w.heap.size 3 A l.length (flat l)) :
    Calls Tryz.prog 22 #[.slice A l.length c, str tok] w (LookPost w (lookR l tok).1 (lookR l tok).2) := by
  have HR := Lib.hid hr; clear hr
  have HW := Lib.hid hw; clear hw
  cases hv : validL l
  · have HX : Hid (lookR l tok = ([], 2)) := Lib.hid (show lookR l tok = _ by unfold lookR; rw [hv]; rfl)
    have HV := Lib.hid hv; clear hv
    rw [HX.out]
    go_enter Tryz.func22, Tryz.ntmps22
    go_wp2_with (go_at_call 23; refine (rvalid_any l A c _ hl HW.out HR.out).mono ?_; rintro e w1 ⟨rfl, hb1⟩; rw [HV.out])
    go_ret2
    exact ⟨none, 0, rfl, Nat.le_refl _, Reads.none_, hb1⟩
  · have HX : Hid (lookR l tok = (formsK l tok l.length, 0)) := Lib.hid (show lookR l tok = _ by unfold lookR; rw [hv]; rfl)
    have hl1 := ((valid_iff l).1 hv).1
    have HV := Lib.hid hv
    have HRT := Lib.hid (fun k hk => valid_right hv (k := k) hk)
    clear hv
    obtain ⟨i0, hi, hz0, hz1, hz2⟩ := info_parts infoFormR
    go_enter Tryz.func22, Tryz.ntmps22
    go_wp2_with (go_at_call 23; refine (rvalid_any l A c _ hl HW.out HR.out).mono ?_; rintro e w1 ⟨rfl, hb1⟩; rw [HV.out])
    go_loopw [6, 7] (fun v i wr => ∃ k : Nat, k ≤ l.length ∧ i = .int .i64 k ∧ wr.ownsRow w.heap.size 54 2 v (formsK l tok k).length (flatF (formsK l tok k)) ∧ Below w.heap.size w wr) (fun _ i _ => l.length - (intOf i).toNat)
    case atStart => exact ⟨0, Nat.zero_le _, rfl, World.ownsRow_nil _ _ _ _, hb1⟩
    case round =>
      obtain ⟨k, hk, rfl, hrow, hb⟩ := hrel
      have hpl := formsK_len l tok k
      have hbs := hb.size
      by_cases hlt : k < l.length
      · obtain ⟨b, off, rfl, hB, h0, h1, h2⟩ := ((HR.out).below hb).ent hlt
        have hrt := HRT.out k hlt
        have HF := Lib.hid (formsK_succ l tok k hlt)
        generalize l[k] = oo at h0 h1 h2 hrt HF
        obtain ⟨x, ct, sy⟩ := oo
        have HRO := Lib.hid hrt; clear hrt
        have HROW := Lib.hid hrow; clear hrow
        have HB := Lib.hid hb
        cases m1 : (x == tok)
        · by_cases h4 : (4 : Int) ≤ (ct.toNat : Int)
          · obtain ⟨hvb, hpp⟩ := rlook_verb HRO.out h4
            obtain ⟨hx1, hx0⟩ := plain_len hpp
            have HVB := Lib.hid hvb; have HPP := Lib.hid hpp; clear hvb hpp
            cases m2 : (thirdL x == tok)
            · have HS := Lib.hid (step_other (k := k) (sy := sy) m1 HVB.out HPP.out m2)
              go_wp2_with (go_at_call 52; refine (rthirdOf_any x _ hx0 hx1).mono ?_; rintro e w2 ⟨rfl, rfl⟩)
              go_roundw
              case rel => exact ⟨k + 1, by omega, by go_num, row_cast0 HROW.out (by rw [HF.out, HS.out]), HB.out⟩
              case measure => simp [intOf]; omega
            · have HS := Lib.hid (step_third (k := k) (sy := sy) m1 HVB.out HPP.out m2)
              go_wp2_with (first | (go_at_call 52; refine (rthirdOf_any x _ hx0 hx1).mono ?_; rintro e w2 ⟨rfl, rfl⟩) | (at_builtin; refine wpList_append_own _ rfl _ _ 48 rfl w.heap.size 54 i0 (.agg #[.int .i64 0, .bool false]) 2 16 Tryz.underlying48 hi hz0 hz1 hz2 rfl (by decide) _ _ _ rfl ((HROW.out).alloc _) ⟨wr.heap.size, 0, none⟩ 1 1 [num k, .bool true] rfl rfl ?ay1 ?by1 ?cy1 ?dy1 ?ey1 ?_))
              try (case ay1 => first | exact two_new _ _ rfl _ _ _ | exact two_new _ _ (by simp) _ _ _)
              case by1 => simp [Value.oneCell']
              case cy1 => (unfold maxLen; omega)
              case dy1 => omega
              case ey1 => (have := (HB.out).size; first | omega | (simp; omega))
              intro v5 w5 howny1 hgrowy1 _
              have HGy1 := Lib.hid (((HB.out).alloc (by have := (HB.out).size; first | omega | (simp; omega)) (.cells #[num k, .bool true] 54)).grown hgrowy1 (by have := (HB.out).size; first | omega | (simp; omega)) (own_ge (HROW.out)))
              skip
              clear hgrowy1
              go_wp2_with fail
              go_roundw
              case rel => exact ⟨k + 1, by omega, by go_num, row_cast howny1 (by rw [HF.out, HS.out]), HGy1.out⟩
              case measure => simp [intOf]; omega
          · have HVB := Lib.hid (rlook_not h4)
            have HS := Lib.hid (step_none (k := k) (sy := sy) m1 HVB.out)
            go_wp2_with fail
            go_roundw
            case rel => exact ⟨k + 1, by omega, by go_num, row_cast0 HROW.out (by rw [HF.out, HS.out]), HB.out⟩
            case measure => simp [intOf]; omega
        · have HS := Lib.hid (step_word (k := k) (sy := sy) (ct := ct) m1)
          go_wp2_with (at_builtin; refine wpList_append_own _ rfl _ _ 48 rfl w.heap.size 54 i0 (.agg #[.int .i64 0, .bool false]) 2 16 Tryz.underlying48 hi hz0 hz1 hz2 rfl (by decide) _ _ _ rfl ((HROW.out).alloc _) ⟨wr.heap.size, 0, none⟩ 1 1 [num k, .bool false] rfl rfl ?ay2 ?by2 ?cy2 ?dy2 ?ey2 ?_)
          try (case ay2 => first | exact two_new _ _ rfl _ _ _ | exact two_new _ _ (by simp) _ _ _)
          case by2 => simp [Value.oneCell']
          case cy2 => (unfold maxLen; omega)
          case dy2 => omega
          case ey2 => (have := (HB.out).size; first | omega | (simp; omega))
          intro v5 w5 howny2 hgrowy2 _
          have HGy2 := Lib.hid (((HB.out).alloc (by have := (HB.out).size; first | omega | (simp; omega)) (.cells #[num k, .bool false] 54)).grown hgrowy2 (by have := (HB.out).size; first | omega | (simp; omega)) (own_ge (HROW.out)))
          skip
          clear hgrowy2
          go_wp2_with fail
          go_roundw
          case rel => exact ⟨k + 1, by omega, by go_num, row_cast howny2 (by rw [HF.out, HS.out]), HGy2.out⟩
          case measure => simp [intOf]; omega
      · obtain rfl : k = l.length := by omega
        have HB := Lib.hid hb
        generalize formsK l tok l.length = F at *
        obtain ⟨A7, c7, hv7, hc7⟩ := own_form hrow
        subst hv7
        have HRR := Lib.hid hrow; clear hrow
        go_wp2_with fail
        go_ret2
        rw [HX.out]
        exact ⟨A7, c7, rfl, hc7, Reads.of_own HRR.out, HB.out⟩
end Go.Proofs.YtbbgieopcmjoeaaGreatDoor
