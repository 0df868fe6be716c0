/- package lyceumref33: the text of tokens. -/
import Derived.Test.YtbbgieopcmjoeaaGreatDoorRefX
import Derived.Test.YtbbgieopcmjoeaaGreatDoorRefTok
namespace Go.Proofs.YtbbgieopcmjoeaaGreatDoor
open Go.RowKit
def GoodTo (l : List (List UInt8)) (k : Nat) : Prop := ∀ i, i < k → badT l i = false
theorem GoodTo.succ {l : List (List UInt8)} {k : Nat} (h : GoodTo l k) (hk : badT l k = false) : GoodTo l (k + 1) := fun i hi => by
  rcases Nat.lt_or_eq_of_le (Nat.lt_succ_iff.1 hi) with h1 | rfl
  · exact h i h1
  · exact hk
def wordTo (q : Bool) (t : List UInt8) (j : Nat) : Bool := q && (t.take j).all letU
theorem wordTo_zero (q : Bool) (t : List UInt8) : wordTo q t 0 = q := by simp [wordTo]
theorem wordTo_succ (q : Bool) {t : List UInt8} {j : Nat} (h : j < t.length) : wordTo q t (j + 1) = (wordTo q t j && letU (t.getD j 0)) := by
  unfold wordTo
  rw [List.take_succ_eq_append_getElem h, List.all_append]
  simp [h, Bool.and_assoc]
theorem wordTo_all {q : Bool} {t : List UInt8} (h : decide (0 < t.length) = q) : wordTo q t t.length = wordL t := by
  unfold wordTo wordL
  rw [← h, List.take_length]
  cases t with
  | nil => rfl
  | cons b r => simp
theorem joinP_le {l : List (List UInt8)} {k : Nat} (hl : l.length ≤ 1048576) (ht : ∀ t ∈ l, t.length ≤ 1048576) (hk : k ≤ l.length) : (joinP l k).length ≤ 1099512676352 := by
  have h1 := joinP_len ht k
  have h2 : k * (1048576 + 1) ≤ 1048576 * (1048576 + 1) := Nat.mul_le_mul_right _ (by omega)
  omega
theorem conv_up (W : World) (b : UInt8) (m : Int) (hm : m = (b.toNat : Int)) : (convert 69 9 (.slice (some ⟨W.heap.size, 0, none⟩) 1 1)).run Tryz.prog (W.alloc (.cells #[.int .u8 m] 5)).drew = .ok (.string ⟨[b].toArray⟩) (W.alloc (.cells #[.int .u8 m] 5)).drew := by
  subst hm
  exact run_convert_bytes_back (W.alloc (.cells #[.int .u8 b.toNat] 5)).drew _ _ 5 ⟨W.heap.size, 0, none⟩ 1 [b] Tryz.underlying69 Tryz.underlying5 Tryz.underlying9 (fun j hj => by
    have : j = 0 := by simpa using hj
    subst this
    exact (Blk.new W 5 #[.int .u8 b.toNat]).drew.cell 0)
theorem part_word {l : List (List UInt8)} {j : Nat} {t : List UInt8} (h : tokA l (j + 1) = t) (hw : wordL t = true) : joinP l (j + 1 + 1) = joinP l (j + 1) ++ (32 :: t) := by
  have e : joinP l (j + 1 + 1) = joinP l (j + 1) ++ partT l (j + 1) := rfl
  rw [e]; unfold partT; rw [if_neg (by omega), h, hw]; rfl
theorem part_mark {l : List (List UInt8)} {j : Nat} {t : List UInt8} (h : tokA l (j + 1) = t) (hw : wordL t = false) : joinP l (j + 1 + 1) = joinP l (j + 1) ++ t := by
  have e : joinP l (j + 1 + 1) = joinP l (j + 1) ++ partT l (j + 1) := rfl
  rw [e]; unfold partT; rw [if_neg (by omega), h, hw]; rfl
theorem part_zero {l : List (List UInt8)} {t : List UInt8} (h : tokA l 0 = t) : joinP l (0 + 1) = joinP l 0 ++ capT t := by
  have e : joinP l (0 + 1) = joinP l 0 ++ partT l 0 := rfl
  rw [e]; unfold partT; rw [if_pos rfl, h]
theorem str_app2 (a b : List UInt8) : Value.string (⟨a.toArray⟩ ++ ⟨b.toArray⟩) = str (a ++ b) := by simp [ByteArray.mk_append_mk]
theorem low_fn' : ∀ t ∈ fwL, lowL t = t := by decide +kernel
theorem str_app3' (a b c : List UInt8) : Value.string (⟨a.toArray⟩ ++ (⟨b.toArray⟩ ++ ⟨c.toArray⟩)) = str (a ++ (b ++ c)) := by simp [ByteArray.mk_append_mk]
theorem up_fn : ∀ t ∈ fwL, 1 ≤ t.length ∧ IntKind.u8.wrap (((t.getD 0 0).toNat : Int) - 32) = ((upU (t.getD 0 0)).toNat : Int) ∧ capT t = upU (t.getD 0 0) :: t.drop 1 := by decide +kernel
set_option maxRecDepth 100000 in
set_option maxHeartbeats 6400000 in
theorem rtext_any (l : List (List UInt8)) (A : Option Addr) (c : Nat) (w : World) (hl : l.length ≤ 1048576) (_hcap : l.length ≤ c) (ht : ∀ t ∈ l, t.length ≤ 1048576) (hr : Reads w w.heap.size 1 A l.length (l.map str)) :
    Calls Tryz.prog 34 #[.slice A l.length c] w fun e w' => e = .returned (.tuple #[str (textR l).1, .int .i64 (textR l).2]) ∧ Below w.heap.size w w' := by
  generalize hR : textR l = R
  have HR := Lib.hid hR; clear hR
  have HRD := Lib.hid hr; clear hr
  have HT := Lib.hid ht; clear ht
  go_enter Tryz.func34, Tryz.ntmps34
  go_wp2_with fail
  go_loopw [4, 5] (fun sv i wr => ∃ k : Nat, k ≤ l.length ∧ i = .int .i64 k ∧ sv = str (joinP l k) ∧ GoodTo l k ∧ Below w.heap.size w wr) (fun _ i _ => l.length - (intOf i).toNat)
  case atStart => exact ⟨0, Nat.zero_le _, rfl, rfl, fun i hi => absurd hi (by omega), Below.refl _ _⟩
  case round =>
    obtain ⟨k, hk, rfl, rfl, hgood, hb⟩ := hrel
    have HG := Lib.hid hgood; clear hgood
    have hjl := joinP_le hl HT.out hk
    by_cases hlt : k < l.length
    · obtain ⟨b, off, hA, hB, hce⟩ := ((HRD.out).below hb).at1 (k := k) (u := str l[k]) hlt (by simp [hlt])
      cases hA
      have HTA := Lib.hid (tokA_at hlt)
      have htl := HT.out _ (List.getElem_mem hlt)
      have hBz : b < wr.heap.size := Nat.lt_of_lt_of_le hB hb.size
      generalize l[k] = t at hce HTA htl
      obtain ⟨q, hq⟩ : ∃ q, decide (0 < t.length) = q := ⟨_, rfl⟩
      have HQ0 := Lib.hid (wordTo_zero q t)
      have HQ := Lib.hid (wordTo_all hq)
      obtain ⟨wo, hwo⟩ : ∃ wo : World, wo = wr := ⟨_, rfl⟩
      rw [← hwo] at hb hBz hce ⊢
      clear hwo
      go_wp2_with fail
      go_loop [6, 7] (fun wv jv => ∃ j : Nat, j ≤ t.length ∧ jv = .int .i64 j ∧ wv = .bool (wordTo q t j)) (fun _ jv => t.length - (intOf jv).toNat)
      case atStart => exact ⟨0, Nat.zero_le _, rfl, by rw [HQ0.out]⟩
      case round =>
        obtain ⟨j, hj, rfl, rfl⟩ := hrel
        by_cases hjt : j < t.length
        · have HS := Lib.hid (wordTo_succ q hjt)
          obtain ⟨x, hx⟩ : ∃ x, t.getD j 0 = x := ⟨_, rfl⟩
          have hg : ∀ h, (ByteArray.mk t.toArray)[j]'h = x := fun h => by rw [ba_get, hx]
          rw [hx] at HS
          clear hx
          cases hlx : letU x
          · have HL : Hid (letB (x.toNat : Int) = false) := hlx
            rw [hlx, Bool.and_false] at HS
            clear hlx
            go_wp2_with (go_at_call 68; refine (rletter_any _ _).mono ?_; rintro e w' ⟨rfl, rfl⟩; rw [HL.out])
            go_round
            case rel => exact ⟨j + 1, by omega, by go_num, by rw [HS.out]⟩
            case measure => simp [intOf]; omega
          · have HL : Hid (letB (x.toNat : Int) = true) := hlx
            rw [hlx, Bool.and_true] at HS
            clear hlx
            go_wp2_with (go_at_call 68; refine (rletter_any _ _).mono ?_; rintro e w' ⟨rfl, rfl⟩; rw [HL.out])
            go_round
            case rel => exact ⟨j + 1, by omega, by go_num, by rw [HS.out]⟩
            case measure => simp [intOf]; omega
        · obtain rfl : j = t.length := by omega
          rw [HQ.out]
          clear HQ HQ0
          rcases Nat.eq_zero_or_pos k with hk0 | hk0
          · subst hk0
            simp only [Nat.add_zero] at hce
            cases hw : wordL t
            · have HW := Lib.hid hw
              cases h44 : (t == [44]) <;> cases h46 : (t == [46])
              all_goals
                have H44 := Lib.hid h44; have H46 := Lib.hid h46
                have HX := Lib.hid (HR.out ▸ text_bad hlt (by unfold badT; rw [HTA.out, HW.out, H44.out, H46.out]; rfl) : R = ([], 2))
                go_wp2_with fail
                go_ret2
                rw [HX.out]
                exact ⟨rfl, hb⟩
            · have HW := Lib.hid hw
              have h44 := (wordL_ne hw).2.2.2.1
              have h46 := (wordL_ne hw).2.2.2.2
              have H44 := Lib.hid h44; have H46 := Lib.hid h46
              rcases Bool.eq_false_or_eq_true ((0 : Int) == (l.length : Int) - 1) with hls | hls
              · have HLS := Lib.hid (show (0 + 1 == l.length) = true by rw [beq_iff_eq] at hls ⊢; omega)
                have HX := Lib.hid (HR.out ▸ text_bad hlt (by unfold badT; rw [HTA.out, HW.out, H44.out, H46.out, HLS.out]; rfl) : R = ([], 2))
                go_wp2_with fail
                go_ret2
                rw [HX.out]
                exact ⟨rfl, hb⟩
              · have HLS := Lib.hid (show (0 + 1 == l.length) = false by rw [beq_eq_false_iff_ne] at hls ⊢; omega)
                cases hfl : isFn (lowL t) <;> cases hft : isFn t
                · have HFL := Lib.hid hfl; have HFT := Lib.hid hft; clear hfl hft
                  have HY := Lib.hid (show badT l 0 = false by unfold badT; rw [HTA.out, HW.out, H44.out, H46.out, HLS.out, HFL.out, HFT.out]; rfl)
                  have HP := Lib.hid (show joinP l (0 + 1) = joinP l 0 ++ t by rw [part_zero HTA.out]; unfold capT; rw [HFT.out]; rfl)
                  go_wp2_with fail
                  go_at_call 69; refine (rlower_any t _ (by omega)).mono ?_; rintro e w2 ⟨rfl, hb2⟩; have hce2 := (hb2.cell (p := ⟨b, off, none⟩) hBz).trans hce
                  go_wp2_with (first | (go_at_call 36; refine (rfunction_any _ _).mono ?_; rintro e w3 ⟨rfl, rfl⟩; first | rw [HFL.out] | rw [HFT.out]) | fail)
                  go_roundw
                  case rel => exact ⟨0 + 1, by omega, by go_num, by rw [HP.out]; exact str_app2 _ _, (HG.out).succ HY.out, (below_then hb hb2)⟩
                  case measure => simp [intOf]; omega
                · exfalso
                  have hm : t ∈ fwL := by unfold isFn at hft; exact List.contains_iff_mem.1 hft
                  have := low_fn' t hm
                  rw [this, hft] at hfl; cases hfl
                · have HFL := Lib.hid hfl; have HFT := Lib.hid hft; clear hfl hft
                  have HX := Lib.hid (HR.out ▸ text_bad hlt (by unfold badT; rw [HTA.out, HW.out, H44.out, H46.out, HLS.out, HFL.out, HFT.out]; rfl) : R = ([], 2))
                  go_wp2_with fail
                  go_at_call 69; refine (rlower_any t _ (by omega)).mono ?_; rintro e w2 ⟨rfl, hb2⟩; have hce2 := (hb2.cell (p := ⟨b, off, none⟩) hBz).trans hce
                  go_wp2_with (go_at_call 36; refine (rfunction_any _ _).mono ?_; rintro e w3 ⟨rfl, rfl⟩; first | rw [HFL.out] | rw [HFT.out])
                  go_ret2
                  rw [HX.out]
                  exact ⟨rfl, (below_then hb hb2)⟩
                · have HFL := Lib.hid hfl; have HFT := Lib.hid hft
                  have hm : t ∈ fwL := by unfold isFn at hft; exact List.contains_iff_mem.1 hft
                  obtain ⟨u1, u2, u3⟩ := up_fn t hm
                  clear hfl hft hm hw
                  obtain ⟨x0, tr, rfl⟩ : ∃ x0 tr, t = x0 :: tr := by
                    cases t with
                    | nil => simp at u1
                    | cons x0 tr => exact ⟨x0, tr, rfl⟩
                  have k44 : (x0 == 44 && tr.isEmpty) = false := (show (x0 :: tr == [44]) = (x0 == 44 && tr.isEmpty) by cases tr <;> rfl).symm.trans h44
                  have k46 : (x0 == 46 && tr.isEmpty) = false := (show (x0 :: tr == [46]) = (x0 == 46 && tr.isEmpty) by cases tr <;> rfl).symm.trans h46
                  clear h44 h46
                  have U2 := Lib.hid (show IntKind.u8.wrap ((x0.toNat : Int) - 32) = ((upU x0).toNat : Int) from u2); clear u2
                  have hg0 : ∀ h, (ByteArray.mk (x0 :: tr).toArray)[0]'h = x0 := fun h => rfl
                  have hx1 := tail_ex x0 tr
                  have HU3 := Lib.hid (show capT (x0 :: tr) = upU x0 :: tr from u3); clear u3 u1
                  have htr : tr.length ≤ 1048575 := by simp at htl; omega
                  have hl1 : (1 : Int) ≤ (tr.length : Int) + 1 := by omega
                  have HY := Lib.hid (show badT l 0 = false by unfold badT; rw [HTA.out, HW.out, H44.out, H46.out, HLS.out, HFL.out, HFT.out]; rfl)
                  have HP := Lib.hid (show joinP l (0 + 1) = joinP l 0 ++ (upU x0 :: tr) by rw [part_zero HTA.out, HU3.out])
                  go_wp2_with fail
                  go_at_call 69; refine (rlower_any (x0 :: tr) _ (by omega)).mono ?_; rintro e w2 ⟨rfl, hb2⟩; have hce2 := (hb2.cell (p := ⟨b, off, none⟩) hBz).trans hce
                  go_wp2_with (go_at_call 36; refine (rfunction_any _ _).mono ?_; rintro e w3 ⟨rfl, rfl⟩; first | rw [HFL.out] | rw [HFT.out])
                  refine wp_region_held_drew (S := fun W => Below w.heap.size w W) (by kernel_rfl) (by exact (below_then hb hb2).drew) (fun hHeld => ?_)
                  refine wpAnyH_take (i := 0) (oi := { dst := some 98, op := Op.move (Operand.tmp 9), type := 9, pos := "ref.go:269", after := #[], guard := none }) (v := ?v1_0) (by kernel_rfl) (by kernel_rfl) (by kernel_rfl) (by kernel_rfl) (fun _ _ _ h => h) (Or.inl ⟨by kernel_rfl, ?h1_0⟩) hHeld ?r1_0
                  case h1_0 => (intro w hSw; (try dsimp only at hSw); go_simp; try with_reducible rfl)
                  try simp only [Act.put, List.setIfInBounds_toArray, List.set_cons_zero, List.set_cons_succ]
                  refine wpAnyH_take (i := 1) (oi := { dst := some 99, op := Op.index 9 (Operand.tmp 98) (Operand.const (Value.int IntKind.i64 0)), type := 5, pos := "ref.go:269", after := #[{ on := 0, ground := Ground.data }], guard := none }) (v := ?v1_1) (by kernel_rfl) (by kernel_rfl) (by kernel_rfl) (by kernel_rfl) (fun _ _ _ h => h) (Or.inl ⟨by kernel_rfl, ?h1_1⟩) hHeld ?r1_1
                  case h1_1 => (intro w hSw; (try dsimp only at hSw); go_simp; try with_reducible rfl)
                  try simp only [Act.put, List.setIfInBounds_toArray, List.set_cons_zero, List.set_cons_succ]
                  refine wpAnyH_take (i := 2) (oi := { dst := some 100, op := Op.binOp BinOp.sub 5 (Operand.tmp 99) (Operand.const (Value.int IntKind.u8 32)) 5, type := 5, pos := "ref.go:269", after := #[{ on := 1, ground := Ground.data }], guard := none }) (v := ?v1_2) (by kernel_rfl) (by kernel_rfl) (by kernel_rfl) (by kernel_rfl) (fun _ _ _ h => h) (Or.inl ⟨by kernel_rfl, ?h1_2⟩) hHeld ?r1_2
                  case h1_2 => (intro w hSw; (try dsimp only at hSw); go_simp; try with_reducible rfl)
                  try simp only [Act.put, List.setIfInBounds_toArray, List.set_cons_zero, List.set_cons_succ]
                  refine wpAnyH_take (i := 5) (oi := { dst := some 103, op := Op.move (Operand.tmp 9), type := 9, pos := "ref.go:269", after := #[], guard := none }) (v := ?v1_5) (by kernel_rfl) (by kernel_rfl) (by kernel_rfl) (by kernel_rfl) (fun _ _ _ h => h) (Or.inl ⟨by kernel_rfl, ?h1_5⟩) hHeld ?r1_5
                  case h1_5 => (intro w hSw; (try dsimp only at hSw); go_simp; try with_reducible rfl)
                  try simp only [Act.put, List.setIfInBounds_toArray, List.set_cons_zero, List.set_cons_succ]
                  refine wpAnyH_take (i := 6) (oi := { dst := some 104, op := Op.slice 9 (Operand.tmp 103) (some (Operand.const (Value.int IntKind.i64 1))) none none, type := 9, pos := "ref.go:269", after := #[{ on := 5, ground := Ground.data }], guard := none }) (v := ?v1_6) (by kernel_rfl) (by kernel_rfl) (by kernel_rfl) (by kernel_rfl) (fun _ _ _ h => h) (Or.inl ⟨by kernel_rfl, ?h1_6⟩) hHeld ?r1_6
                  case h1_6 => (intro w hSw; (try dsimp only at hSw); go_simp; try with_reducible rfl)
                  try simp only [Act.put, List.setIfInBounds_toArray, List.set_cons_zero, List.set_cons_succ]
                  refine wpAnyH_ready (rs := [3]) (by kernel_rfl) (by simp) ?_
                  refine AllReadyH.cons (i := 3) (o := { dst := some 101, op := Op.buildSlice 69 1 #[(0, Operand.tmp 100)], type := 69, pos := "ref.go:269", after := #[{ on := 2, ground := Ground.data }], guard := none }) rfl (fun K hK => ?_) AllReadyH.nil
                  go_simp
                  skip
                  refine hK.out _ _ (by first | exact Below.alloc (by assumption) (Below.size (by assumption)) _ | assumption) (fun hHeld => ?_)
                  clear hK K
                  try simp only [Act.put, List.setIfInBounds_toArray, List.set_cons_zero, List.set_cons_succ]
                  refine wpAnyH_ready (rs := [4]) (by kernel_rfl) (by simp) ?_
                  refine AllReadyH.cons (i := 4) (o := { dst := some 102, op := Op.convert 69 9 (Operand.tmp 101), type := 9, pos := "ref.go:269", after := #[{ on := 3, ground := Ground.data }], guard := none }) rfl (fun K hK => ?_) AllReadyH.nil
                  go_simp
                  rw [conv_up w2 (upU x0) _ U2.out]
                  go_simp
                  refine hK.out _ _ (by first | exact Below.alloc (by assumption) (Below.size (by assumption)) _ | assumption) (fun hHeld => ?_)
                  clear hK K
                  try simp only [Act.put, List.setIfInBounds_toArray, List.set_cons_zero, List.set_cons_succ]
                  refine wpAnyH_take (i := 7) (oi := { dst := some 105, op := Op.binOp BinOp.add 9 (Operand.tmp 102) (Operand.tmp 104) 9, type := 9, pos := "ref.go:269", after := #[{ on := 4, ground := Ground.data }, { on := 6, ground := Ground.data }], guard := none }) (v := ?v1_7) (by kernel_rfl) (by kernel_rfl) (by kernel_rfl) (by kernel_rfl) (fun _ _ _ h => h) (Or.inl ⟨by kernel_rfl, ?h1_7⟩) hHeld ?r1_7
                  case h1_7 => (intro w hSw; (try dsimp only at hSw); go_simp; rw [if_neg (by omega)]; try with_reducible rfl)
                  try simp only [Act.put, List.setIfInBounds_toArray, List.set_cons_zero, List.set_cons_succ]
                  refine wpAnyH_take (i := 8) (oi := { dst := some 9, op := Op.assign (Operand.tmp 105), type := 9, pos := "ref.go:269", after := #[{ on := 7, ground := Ground.data }, { on := 0, ground := Ground.phase }, { on := 1, ground := Ground.phase }, { on := 2, ground := Ground.phase }, { on := 3, ground := Ground.phase }, { on := 4, ground := Ground.phase }, { on := 5, ground := Ground.phase }, { on := 6, ground := Ground.phase }, { on := 7, ground := Ground.phase }], guard := none }) (v := ?v1_8) (by kernel_rfl) (by kernel_rfl) (by kernel_rfl) (by kernel_rfl) (fun _ _ _ h => h) (Or.inl ⟨by kernel_rfl, ?h1_8⟩) hHeld ?r1_8
                  case h1_8 => (intro w hSw; (try dsimp only at hSw); go_simp; try with_reducible rfl)
                  try simp only [Act.put, List.setIfInBounds_toArray, List.set_cons_zero, List.set_cons_succ]
                  refine wpAnyH_done (by kernel_rfl) ?_ _
                  all_goals go_wp2_with fail
                  go_roundw
                  case rel => exact ⟨0 + 1, by omega, by go_num, by rw [HP.out]; exact str_app3' _ [upU x0] _, (HG.out).succ HY.out, hHeld⟩
                  case measure => simp [intOf]; omega
          · obtain ⟨m, rfl⟩ : ∃ m, k = m + 1 := ⟨k - 1, by omega⟩
            have hm0 : (0 : Int) ≤ (m : Int) + 1 := by omega
            have hm1 : ((m : Int) + 1 == 0) = false := by rw [beq_eq_false_iff_ne]; omega
            obtain ⟨ls, hls⟩ : ∃ ls, ((m : Int) + 1 == (l.length : Int) - 1) = ls := ⟨_, rfl⟩
            have HLS := Lib.hid (show (m + 1 + 1 == l.length) = ls by rw [← hls, Bool.eq_iff_iff, beq_iff_eq, beq_iff_eq]; omega)
            cases hw : wordL t
            · have HW := Lib.hid hw
              cases h44 : (t == [44])
              · cases h46 : (t == [46])
                · have H44 := Lib.hid h44; have H46 := Lib.hid h46
                  have HX := Lib.hid (HR.out ▸ text_bad hlt (by unfold badT; rw [HTA.out, HW.out, H44.out, H46.out]; rfl) : R = ([], 2))
                  go_wp2_with fail
                  go_ret2
                  rw [HX.out]
                  exact ⟨rfl, hb⟩
                · have H44 := Lib.hid h44; have H46 := Lib.hid h46
                  cases ls
                  · skip
                    have HX := Lib.hid (HR.out ▸ text_bad hlt (by unfold badT; rw [HTA.out, HW.out, H44.out, H46.out, HLS.out]; rfl) : R = ([], 2))
                    go_wp2_with fail
                    go_ret2
                    rw [HX.out]
                    exact ⟨rfl, hb⟩
                  · skip
                    have HY := Lib.hid (show badT l (m + 1) = false by unfold badT; rw [HTA.out, HW.out, H44.out, H46.out, HLS.out]; rfl)
                    have HP := Lib.hid (part_mark HTA.out HW.out)
                    go_wp2_with fail
                    go_roundw
                    case rel => exact ⟨(m + 1) + 1, by omega, by go_num, by rw [HP.out]; exact str_app2 _ _, (HG.out).succ HY.out, hb⟩
                    case measure => simp [intOf]; omega
              · have h46 : (t == [46]) = false := by have := beq_iff_eq.1 h44; subst this; rfl
                have H44 := Lib.hid h44; have H46 := Lib.hid h46
                cases ls
                · skip
                  have HY := Lib.hid (show badT l (m + 1) = false by unfold badT; rw [HTA.out, HW.out, H44.out, H46.out, HLS.out]; rfl)
                  have HP := Lib.hid (part_mark HTA.out HW.out)
                  go_wp2_with fail
                  go_roundw
                  case rel => exact ⟨(m + 1) + 1, by omega, by go_num, by rw [HP.out]; exact str_app2 _ _, (HG.out).succ HY.out, hb⟩
                  case measure => simp [intOf]; omega
                · skip
                  have HX := Lib.hid (HR.out ▸ text_bad hlt (by unfold badT; rw [HTA.out, HW.out, H44.out, H46.out, HLS.out]; rfl) : R = ([], 2))
                  go_wp2_with fail
                  go_ret2
                  rw [HX.out]
                  exact ⟨rfl, hb⟩
            · have HW := Lib.hid hw
              have h44 := (wordL_ne hw).2.2.2.1
              have h46 := (wordL_ne hw).2.2.2.2
              have H44 := Lib.hid h44; have H46 := Lib.hid h46
              cases ls
              · skip
                have HY := Lib.hid (show badT l (m + 1) = false by unfold badT; rw [HTA.out, HW.out, H44.out, H46.out, HLS.out]; rfl)
                have HP := Lib.hid (part_word HTA.out HW.out)
                go_wp2_with fail
                go_roundw
                case rel => exact ⟨(m + 1) + 1, by omega, by go_num, by rw [HP.out]; exact str_app3' _ [32] _, (HG.out).succ HY.out, hb⟩
                case measure => simp [intOf]; omega
              · skip
                have HX := Lib.hid (HR.out ▸ text_bad hlt (by unfold badT; rw [HTA.out, HW.out, H44.out, H46.out, HLS.out]; rfl) : R = ([], 2))
                go_wp2_with fail
                go_ret2
                rw [HX.out]
                exact ⟨rfl, hb⟩
    · obtain rfl : k = l.length := by omega
      rcases Nat.eq_zero_or_pos l.length with hl0 | hl0
      · have hln : l = [] := List.eq_nil_of_length_eq_zero hl0
        have HX := Lib.hid (HR.out ▸ (by rw [hln]; rfl) : R = ([], 2))
        have hle : ((l.length : Int) == 0) = true := by rw [beq_iff_eq]; omega
        clear hln
        go_wp2_with fail
        go_ret2
        rw [HX.out]
        exact ⟨rfl, hb⟩
      · have hle : ((l.length : Int) == 0) = false := by rw [beq_eq_false_iff_ne]; omega
        have HX := Lib.hid (HR.out ▸ text_good hl0 HG.out)
        by_cases hbig : 1000 < (joinP l l.length).length
        · have HX2 := Lib.hid (show R = ([], 3) by rw [HX.out, if_pos hbig])
          have hd : decide ((1000 : Int) < ((joinP l l.length).length : Int)) = true := by rw [decide_eq_true_eq]; omega
          go_wp2_with fail
          go_ret2
          rw [HX2.out]
          exact ⟨rfl, hb⟩
        · have HX2 := Lib.hid (show R = (joinP l l.length, 0) by rw [HX.out, if_neg hbig])
          have hd : decide ((1000 : Int) < ((joinP l l.length).length : Int)) = false := by rw [decide_eq_false_iff_not]; omega
          go_wp2_with fail
          go_ret2
          rw [HX2.out]
          exact ⟨rfl, hb⟩
    end Go.Proofs.YtbbgieopcmjoeaaGreatDoor
