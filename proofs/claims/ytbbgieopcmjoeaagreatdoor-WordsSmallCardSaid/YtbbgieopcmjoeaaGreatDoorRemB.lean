/- package words: taking an entry out of a lexicon. -/
import Derived.Test.YtbbgieopcmjoeaaGreatDoorAddB
import Derived.Test.YtbbgieopcmjoeaaGreatDoorDelE
namespace Go.Proofs.YtbbgieopcmjoeaaGreatDoor
open Go.RowKit
def isE (tok : List UInt8) (ct : UInt8) (o : Ent) : Bool := (o.1 == tok) && (o.2.1 == ct)
theorem u8_eqq (a b : UInt8) : ((a.toNat : Int) == (b.toNat : Int)) = (a == b) := by
  rw [Bool.eq_iff_iff, beq_iff_eq, beq_iff_eq, ← UInt8.toNat_inj]; omega
theorem remove1_any (o : Ent) (tok : List UInt8) (ct : UInt8) (B1 B2 : Nat) (w : World) (hB1 : B1 < w.heap.size) (hB2 : B2 < w.heap.size) (h1 : w.cell? ⟨B1, 0, none⟩ = some (str tok)) (h2 : w.cell? ⟨B2, 0, none⟩ = some (byteV ct)) :
    Calls Tryz.prog 47 #[entV o, .pointer (some ⟨B1, 0, none⟩), .pointer (some ⟨B2, 0, none⟩)] w fun e' w' => e' = .returned (.bool (isE tok ct o)) ∧ Below w.heap.size w w' := by
  obtain ⟨ox, oc, osy⟩ := o
  have hb := (Below.refl w.heap.size w).alloc (Nat.le_refl _) (.cells #[str ox, byteV oc, str osy] 24)
  have hu := u8_eqq oc ct
  cases hx : (ox == tok)
  · have HX : Hid (isE tok ct (ox, oc, osy) = false) := by show isE tok ct (ox, oc, osy) = false; unfold isE; rw [hx]; rfl
    go_enter Tryz.func47, Tryz.ntmps47
    go_wp2_with fail
    go_ret
    exact ⟨by rw [HX.out]; rfl, hb⟩
  · have HX : Hid (isE tok ct (ox, oc, osy) = (oc == ct)) := by show isE tok ct (ox, oc, osy) = _; unfold isE; rw [hx]; rfl
    cases hc : (oc == ct)
    all_goals
      rw [hc] at HX hu
      clear hc
      go_enter Tryz.func47, Tryz.ntmps47
      go_wp2_with fail
      go_ret
      exact ⟨by rw [HX.out]; rfl, hb⟩
theorem enters_remove1 : Enters Tryz.prog 47 := enters_of Tryz.func47 (by kernel_rfl) rfl
def atE (l : List Ent) (tok : List UInt8) (ct : UInt8) : Nat := firstIdx (fun i => isE tok ct (l.getD i ([], 0, []))) l.length
theorem find_is (l : List Ent) (tok : List UInt8) (ct : UInt8) (A : Option Addr) (c B1 B2 : Nat) (w : World) (hm : l.length ≤ 140737488355328) (hr : Reads w w.heap.size 3 A l.length (flat l)) (hB1 : B1 < w.heap.size) (hB2 : B2 < w.heap.size)
    (h1 : w.cell? ⟨B1, 0, none⟩ = some (str tok)) (h2 : w.cell? ⟨B2, 0, none⟩ = some (byteV ct)) :
    Calls Tryz.prog 39 #[.slice A l.length c, .func (.func 47) #[] #[.pointer (some ⟨B1, 0, none⟩), .pointer (some ⟨B2, 0, none⟩)]] w fun e' w' => e' = .returned (.int .i64 (atE l tok ct)) ∧ Below w.heap.size w w' := by
  have hp : Pred 47 [.pointer (some ⟨B1, 0, none⟩), .pointer (some ⟨B2, 0, none⟩)] (argE (flat l)) l.length (fun i => isE tok ct (l.getD i ([], 0, []))) w := fun i hi W hb => by
    rw [flat_arg l i hi]
    have hE : l.getD i ([], 0, []) = l[i] := by simp [hi]
    exact (remove1_any l[i] tok ct B1 B2 W (Nat.lt_of_lt_of_le hB1 hb.size) (Nat.lt_of_lt_of_le hB2 hb.size) ((hb.cell (p := ⟨B1, 0, none⟩) hB1).trans h1) ((hb.cell (p := ⟨B2, 0, none⟩) hB2).trans h2)).mono fun e' w' h => by rw [← hE] at h; exact h
  exact find_ent A l.length c (flat l) 47 enters_remove1 [.pointer (some ⟨B1, 0, none⟩), .pointer (some ⟨B2, 0, none⟩)] _ w hm hr hp
def removeR (l : List Ent) (tok : List UInt8) (ct : UInt8) : List Ent × Int :=
  if validL l then (if atE l tok ct = l.length then ([], 6) else (l.take (atE l tok ct) ++ l.drop (atE l tok ct + 1), 0)) else ([], 2)
theorem out_length (l : List Ent) (k : Nat) (hk : k < l.length) : (l.take k ++ l.drop (k + 1)).length = l.length - 1 := by simp; omega
theorem own_out {w : World} {B e' n : Nat} {v : Value} {xs : List Value} (h : w.ownsRow B e' 3 v n xs) : ∃ A c, v = .slice A n c ∧ n ≤ c ∧ w.ownsRow B e' 3 (.slice A n c) n xs := by
  obtain ⟨A, c, rfl, hc⟩ := own_form h
  exact ⟨A, c, rfl, hc, h⟩
theorem out_post {w w' : World} {l : List Ent} {k : Nat} {A : Option Addr} {c : Nat} (hk : k < l.length) (hc : l.length - 1 ≤ c) (ho : w'.ownsRow w.heap.size 24 3 (.slice A (l.length - 1) c) (l.length - 1) (flat (l.take k ++ l.drop (k + 1)))) (hb : Below w.heap.size w w') :
    OwnPost w (l.take k ++ l.drop (k + 1)) 0 (.returned (.tuple #[.slice A (l.length - 1) c, .int .i64 0])) w' := by
  rw [← out_length l k hk] at ho hc ⊢
  exact ⟨A, c, rfl, hc, ho, hb⟩
set_option maxRecDepth 100000 in
set_option maxHeartbeats 1600000 in
theorem remove_any (l : List Ent) (tok : List UInt8) (ct : UInt8) (A : Option Addr) (c : Nat) (w : World) (hl : l.length ≤ 1048576) (hw : ∀ x ∈ l, x.1.length ≤ 1048576) (hc : l.length ≤ c) (hr : Reads w w.heap.size 3 A l.length (flat l)) :
    Calls Tryz.prog 14 #[.slice A l.length c, str tok, byteV ct] w (OwnPost w (removeR l tok ct).1 (removeR l tok ct).2) := by
  have HRD := Lib.hid hr
  have HW := Lib.hid hw
  clear hr hw
  have hbox : Hid (∀ W : World, W = (w.alloc (.cells #[str tok] 9)).alloc (.cells #[byteV ct] 5) → Blk W w.heap.size 9 #[str tok] ∧ Blk W (w.heap.size + 1) 5 #[byteV ct] ∧ Below w.heap.size w W) := fun W h => by
    subst h
    refine ⟨(Blk.new _ _ _).alloc _, ?_, ((Below.refl _ _).alloc (Nat.le_refl _) _).alloc (by simp) _⟩
    have h := Blk.new (w.alloc (.cells #[str tok] 9)) 5 #[byteV ct]
    rw [World.size_alloc] at h; exact h
  cases hv : validL l
  · have HX := Lib.hid (show removeR l tok ct = ([], 2) by unfold removeR; rw [hv]; rfl)
    have HV := Lib.hid hv; clear hv
    rw [HX.out]
    go_enter Tryz.func14, Tryz.ntmps14
    go_wp2_with fail
    obtain ⟨W1, hW1⟩ : ∃ W1 : World, W1 = (w.alloc (.cells #[str tok] 9)).alloc (.cells #[byteV ct] 5) := ⟨_, rfl⟩
    obtain ⟨hbk1, hbk2, hb1⟩ := hbox.out W1 hW1
    rw [← hW1]
    clear hW1
    go_at_call 17; refine (valid_any l A c _ (fun x h => by have := HW.out x h; omega) hc ((HRD.out).later hb1)).mono ?_; rintro e' w3 ⟨rfl, hb3⟩; rw [HV.out]
    go_wp2_with fail
    go_ret2
    exact OwnPost.none_ 2 (below_then hb1 hb3)
  · have hl1 : l.length ≤ 100 := by
      have hv' := hv
      unfold validL at hv'; rw [Bool.and_eq_true] at hv'; simpa using hv'.1
    have hat : atE l tok ct ≤ l.length := firstIdx_le _ _
    have HFG := Lib.hid (fun W hr h1 h2 h3 h4 => find_is l tok ct A c w.heap.size (w.heap.size + 1) W (by omega) hr h1 h2 h3 h4)
    rcases Nat.lt_or_ge (atE l tok ct) l.length with hlt | hge
    · have HX := Lib.hid (show removeR l tok ct = (l.take (atE l tok ct) ++ l.drop (atE l tok ct + 1), 0) by unfold removeR; rw [hv, if_pos rfl, if_neg (by omega)])
      have HV := Lib.hid hv; clear hv
      rw [HX.out]
      clear HX
      generalize atE l tok ct = at_ at *
      have hne : ((at_ : Int) == (l.length : Int)) = false := by rw [beq_eq_false_iff_ne]; omega
      go_enter Tryz.func14, Tryz.ntmps14
      go_wp2_with fail
      obtain ⟨W1, hW1⟩ : ∃ W1 : World, W1 = (w.alloc (.cells #[str tok] 9)).alloc (.cells #[byteV ct] 5) := ⟨_, rfl⟩
      obtain ⟨hbk1, hbk2, hb1⟩ := hbox.out W1 hW1
      rw [← hW1]
      clear hW1
      go_at_call 17; refine (valid_any l A c _ (fun x h => by have := HW.out x h; omega) hc ((HRD.out).later hb1)).mono ?_; rintro e' w3 ⟨rfl, hb3⟩; rw [HV.out]
      replace hbk1 := hbk1.later hb3
      replace hbk2 := hbk2.later hb3
      replace hb1 := below_then hb1 hb3; clear hb3
      go_wp2_with fail
      go_at_call 39; refine ((HFG.out) w3 ((HRD.out).later hb1) hbk1.lt hbk2.lt (hbk1.cell 0) (hbk2.cell 0)).mono ?_; rintro e' w4 ⟨rfl, hb4⟩
      replace hb1 := below_then hb1 hb4; clear hb4
      go_wp2_with fail
      go_at_call 46; refine (cloneE_any l _ c _ (by omega) ((HRD.out).later hb1)).mono ?_; rintro e8 w8 ⟨v8, rfl, hown8, hb8⟩
      have HO8 := Lib.hid (own_less hown8 hb1.size)
      have HB8 := Lib.hid (below_then hb1 hb8)
      clear hown8
      go_wp2_with fail
      go_at_call 48; refine (deleteE_any l at_ v8 w.heap.size _ hlt (by omega) HO8.out).mono ?_; rintro e9 w9 ⟨v9, rfl, hown9, hb9⟩
      obtain ⟨A9, c9, rfl, hc9, ho9⟩ := own_out hown9
      have HO9 := Lib.hid ho9; clear hown9 ho9
      go_wp2_with fail
      go_ret2
      exact out_post hlt hc9 HO9.out ((HB8.out).trans hb9)
    · have hge' : atE l tok ct = l.length := by omega
      have HX := Lib.hid (show removeR l tok ct = ([], 6) by unfold removeR; rw [hv, if_pos rfl, if_pos hge'])
      have HV := Lib.hid hv; clear hv
      rw [HX.out]
      clear HX hge'
      generalize atE l tok ct = at_ at *
      have hne : ((at_ : Int) == (l.length : Int)) = true := by rw [beq_iff_eq]; omega
      go_enter Tryz.func14, Tryz.ntmps14
      go_wp2_with fail
      obtain ⟨W1, hW1⟩ : ∃ W1 : World, W1 = (w.alloc (.cells #[str tok] 9)).alloc (.cells #[byteV ct] 5) := ⟨_, rfl⟩
      obtain ⟨hbk1, hbk2, hb1⟩ := hbox.out W1 hW1
      rw [← hW1]
      clear hW1
      go_at_call 17; refine (valid_any l A c _ (fun x h => by have := HW.out x h; omega) hc ((HRD.out).later hb1)).mono ?_; rintro e' w3 ⟨rfl, hb3⟩; rw [HV.out]
      replace hbk1 := hbk1.later hb3
      replace hbk2 := hbk2.later hb3
      replace hb1 := below_then hb1 hb3; clear hb3
      go_wp2_with fail
      go_at_call 39; refine ((HFG.out) w3 ((HRD.out).later hb1) hbk1.lt hbk2.lt (hbk1.cell 0) (hbk2.cell 0)).mono ?_; rintro e' w4 ⟨rfl, hb4⟩
      replace hb1 := below_then hb1 hb4; clear hb4
      go_wp2_with fail
      go_ret2
      exact OwnPost.none_ 6 hb1
end Go.Proofs.YtbbgieopcmjoeaaGreatDoor
