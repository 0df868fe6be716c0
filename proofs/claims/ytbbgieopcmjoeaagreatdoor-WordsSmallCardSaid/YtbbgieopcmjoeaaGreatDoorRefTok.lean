/- package lyceumref33: the tokens of a text. -/
import Derived.Test.YtbbgieopcmjoeaaGreatDoorRefB
import Derived.Test.YtbbgieopcmjoeaaGreatDoorRefT
namespace Go.Proofs.YtbbgieopcmjoeaaGreatDoor
open Go.RowKit
theorem str_new (W : World) (n : Nat) (hn : W.heap.size = n) (x : Value) (t : TypeId) : ∀ j u, [x][j]? = some u → (W.alloc (.cells #[x] t)).cell? ((⟨n, 0, none⟩ : Addr).add j) = some u := by
  subst hn
  intro j u hu
  cases j with
  | zero =>
    obtain rfl : x = u := by simpa using hu
    exact (Blk.new W t #[x]).cell 0
  | succ j => simp at hu
theorem row_castS {W : World} {B e : Nat} {v : Value} {out l : List (List UInt8)} {x : List UInt8} (h : W.ownsRow B e 1 v (out.length + 1) (out.map str ++ [str x])) (hg : l = out ++ [x]) : W.ownsRow B e 1 v l.length (l.map str) := by
  subst hg; simpa using h
def LetsTo (s : List UInt8) (k p : Nat) : Prop := ∀ i, k ≤ i → i ≤ p → letU (s.getD i 0) = true
theorem letsTo_span {s : List UInt8} {k p : Nat} (h : LetsTo s k p) (hk : k ≤ p) (hp : p < s.length) (hx : p + 1 < s.length → letU (s.getD (p + 1) 0) = false) : spanLen (s.drop k) = p + 1 - k :=
  spanLen_eq s k (p + 1 - k) (by omega) (by omega) (by omega) (fun _ => h k (Nat.le_refl _) hk) (fun i h1 h2 => h (k + i) (by omega) (by omega)) (fun _ hlt => by
    have e : k + (p + 1 - k) = p + 1 := by omega
    rw [e] at hlt ⊢; exact hx hlt)
theorem ext_span {s : List UInt8} {k p : Nat} (hk : k ≤ p) (h : spanLen (s.drop k) = p + 1 - k) : (ByteArray.mk s.toArray).extract k (p + 1) = ⟨((s.drop k).take (spanLen (s.drop k))).toArray⟩ := by
  rw [h, ← ext_take]; congr 1; omega
theorem out_len {s : List UInt8} {k : Nat} {out : List (List UInt8)} {en : Bool} (h : TS s k out en) : out.length ≤ k := h.2.2
theorem u8_ne44 (b : UInt8) : ((b.toNat : Int) != 44) = !(b == 44) := by rw [bne]; congr 1; exact u8_beqN b 44 (by omega)
theorem u8_ne46 (b : UInt8) : ((b.toNat : Int) != 46) = !(b == 46) := by rw [bne]; congr 1; exact u8_beqN b 46 (by omega)
theorem u8_beq46 (b : UInt8) : ((b.toNat : Int) == 46) = (b == 46) := u8_beqN b 46 (by omega)
theorem u8_beq32' (b : UInt8) : ((b.toNat : Int) == 32) = (b == 32) := u8_beqN b 32 (by omega)
set_option maxRecDepth 100000 in
set_option maxHeartbeats 6400000 in
theorem rtokens_short (s : List UInt8) (w : World) (hs : s.length ≤ 1000) : Calls Tryz.prog 33 #[str s] w (TokPost w (tokensR s).1 (tokensR s).2.1 (tokensR s).2.2) := by
  obtain ⟨i0, hi, hz0, hz1, hz2⟩ := info_parts infoStr
  generalize hR : tokensR s = R
  have HR := Lib.hid hR; clear hR
  have hd : decide (1000 < (s.length : Int)) = false := by simp; omega
  go_enter Tryz.func33, Tryz.ntmps33
  go_wp2_with fail
  go_loopw [5, 6, 7] (fun ov ev i wr => ∃ (k : Nat) (out : List (List UInt8)) (en : Bool), k ≤ s.length ∧ i = .int .i64 k ∧ ev = .bool en ∧ TS s k out en ∧ wr.ownsRow w.heap.size 9 1 ov out.length (out.map str) ∧ Below w.heap.size w wr) (fun _ _ i _ => s.length - (intOf i).toNat)
  case atStart => exact ⟨0, [], false, Nat.zero_le _, rfl, rfl, ts_zero s, World.ownsRow_nil _ _ _ _, Below.refl _ _⟩
  case round =>
    obtain ⟨k, out, en, hk, rfl, rfl, hts, hrow, hb⟩ := hrel
    have HTS := Lib.hid hts; clear hts
    obtain ⟨A', c', hv', hle⟩ := own_form hrow
    subst hv'
    have HROW := Lib.hid hrow; clear hrow
    have hol := out_len HTS.out
    by_cases hlt : k < s.length
    · obtain ⟨b, hb0⟩ : ∃ b, s.getD k 0 = b := ⟨_, rfl⟩
      have hg : ∀ h, (ByteArray.mk s.toArray)[k]'h = b := fun h => by rw [ba_get, hb0]
      have HB := Lib.hid hb0; clear hb0
      have e32 := u8_beq32' b
      cases h32 : (b == 32)
      · rw [h32] at e32
        have HN32 := Lib.hid (show s.getD k 0 ≠ 32 by rw [HB.out]; intro e; rw [e] at h32; cases h32)
        clear h32
        have hbs := hb.size
        cases en
        · cases hlb : letU b
          · have HL : Hid (letB (b.toNat : Int) = false) := hlb
            have HLF := Lib.hid (show letU (s.getD k 0) = false by rw [HB.out]; exact hlb)
            clear hlb
            have n44 := u8_ne44 b
            have n46 := u8_ne46 b
            have q46 := u8_beq46 b
            cases h44 : (b == 44)
            · rw [h44] at n44
              cases h46 : (b == 46)
              · rw [h46] at n46 q46
                have HX := Lib.hid (HR.out ▸ ts_err HTS.out hlt hs HN32.out (by rw [show letU (s.getD k 0) = false from HLF.out, HB.out, bne, bne, h44, h46]; rfl) : R = ([], (k : Int), 332))
                go_wp2_with (go_at_call 68; refine (rletter_any _ _).mono ?_; rintro e w' ⟨rfl, rfl⟩; rw [HL.out])
                go_ret3
                rw [HX.out]
                exact ⟨none, 0, rfl, Nat.le_refl _, Reads.none_, hb⟩
              · rw [h46] at n46 q46
                rcases Bool.eq_false_or_eq_true out.isEmpty with hoe | hoe
                · skip
                  obtain rfl : out = [] := List.isEmpty_iff.1 hoe
                  clear hle hoe
                  have HX := Lib.hid (HR.out ▸ ts_err HTS.out hlt hs HN32.out (by rw [show letU (s.getD k 0) = false from HLF.out]; simp) : R = ([], (k : Int), 332))
                  go_wp2_with (go_at_call 68; refine (rletter_any _ _).mono ?_; rintro e w' ⟨rfl, rfl⟩; rw [HL.out])
                  go_ret3
                  rw [HX.out]
                  exact ⟨none, 0, rfl, Nat.le_refl _, Reads.none_, hb⟩
                · skip
                  have hz : ((out.length : Int) == 0) = false := by rw [beq_eq_false_iff_ne]; intro e; have h0 : out = [] := List.eq_nil_of_length_eq_zero (by omega); rw [h0] at hoe; cases hoe
                  have HLE : Hid (k + 1 ≤ s.length) := hlt
                  have hext := ext_take s k 1
                  rw [(span_mark hlt HLF.out).2, HB.out] at hext
                  have hq := ts_mark HTS.out hlt HLF.out (by rw [HB.out]; exact .inr h46) hoe
                  rw [HB.out, h46] at hq
                  have HQ := Lib.hid hq
                  clear hq
                  clear hoe
                  go_wp2_with (first | (at_builtin; refine wpList_append_own _ rfl _ _ 29 rfl w.heap.size 9 i0 (.string ⟨#[]⟩) 1 16 Tryz.underlying29 hi hz0 hz1 hz2 rfl (by decide) _ _ _ rfl ((HROW.out).alloc _) ⟨wr.heap.size, 0, none⟩ 1 1 [str [b]] rfl rfl ?a1 ?b1 ?c1 ?d1 ?e1 ?_) | (go_at_call 68; refine (rletter_any _ _).mono ?_; rintro e w1 ⟨rfl, rfl⟩; rw [HL.out]))
                  try (case a1 => exact str_new _ _ (by simp) _ _)
                  case b1 => simp [Value.oneCell']
                  case c1 => (unfold maxLen; omega)
                  case d1 => omega
                  case e1 => (have := (hb).size; first | omega | (simp; omega))
                  intro v' w4 hown' hgrow _
                  have HG := Lib.hid ((hb).alloc (by have := (hb).size; first | omega | (simp; omega)) (.cells #[str [b]] 9) |>.grown hgrow (by have := (hb).size; first | omega | (simp; omega)) (own_ge (HROW.out)))
                  clear hgrow
                  go_wp2_with fail
                  go_roundw
                  case rel => exact ⟨k + 1, _, _, by have := HLE.out; omega, by go_num, rfl, HQ.out, row_castS hown' rfl, HG.out⟩
                  case measure => simp [intOf]; omega
            · rw [h44] at n44
              have h46 : (b == 46) = false := by have := beq_iff_eq.1 h44; subst this; rfl
              rw [h46] at n46 q46
              rcases Bool.eq_false_or_eq_true out.isEmpty with hoe | hoe
              · skip
                obtain rfl : out = [] := List.isEmpty_iff.1 hoe
                clear hle hoe
                have HX := Lib.hid (HR.out ▸ ts_err HTS.out hlt hs HN32.out (by rw [show letU (s.getD k 0) = false from HLF.out]; simp) : R = ([], (k : Int), 332))
                go_wp2_with (go_at_call 68; refine (rletter_any _ _).mono ?_; rintro e w' ⟨rfl, rfl⟩; rw [HL.out])
                go_ret3
                rw [HX.out]
                exact ⟨none, 0, rfl, Nat.le_refl _, Reads.none_, hb⟩
              · skip
                have hz : ((out.length : Int) == 0) = false := by rw [beq_eq_false_iff_ne]; intro e; have h0 : out = [] := List.eq_nil_of_length_eq_zero (by omega); rw [h0] at hoe; cases hoe
                have HLE : Hid (k + 1 ≤ s.length) := hlt
                have hext := ext_take s k 1
                rw [(span_mark hlt HLF.out).2, HB.out] at hext
                have hq := ts_mark HTS.out hlt HLF.out (by rw [HB.out]; exact .inl h44) hoe
                rw [HB.out, h46] at hq
                have HQ := Lib.hid hq
                clear hq
                clear hoe
                go_wp2_with (first | (at_builtin; refine wpList_append_own _ rfl _ _ 29 rfl w.heap.size 9 i0 (.string ⟨#[]⟩) 1 16 Tryz.underlying29 hi hz0 hz1 hz2 rfl (by decide) _ _ _ rfl ((HROW.out).alloc _) ⟨wr.heap.size, 0, none⟩ 1 1 [str [b]] rfl rfl ?a2 ?b2 ?c2 ?d2 ?e2 ?_) | (go_at_call 68; refine (rletter_any _ _).mono ?_; rintro e w1 ⟨rfl, rfl⟩; rw [HL.out]))
                try (case a2 => exact str_new _ _ (by simp) _ _)
                case b2 => simp [Value.oneCell']
                case c2 => (unfold maxLen; omega)
                case d2 => omega
                case e2 => (have := (hb).size; first | omega | (simp; omega))
                intro v' w4 hown' hgrow _
                have HG := Lib.hid ((hb).alloc (by have := (hb).size; first | omega | (simp; omega)) (.cells #[str [b]] 9) |>.grown hgrow (by have := (hb).size; first | omega | (simp; omega)) (own_ge (HROW.out)))
                clear hgrow
                go_wp2_with fail
                go_roundw
                case rel => exact ⟨k + 1, _, _, by have := HLE.out; omega, by go_num, rfl, HQ.out, row_castS hown' rfl, HG.out⟩
                case measure => simp [intOf]; omega
          · have HL : Hid (letB (b.toNat : Int) = true) := hlb
            have HLT := Lib.hid (show letU (s.getD k 0) = true by rw [HB.out]; exact hlb)
            clear hlb
            have HL0 : Hid (LetsTo s k k) := fun i h1 h2 => by obtain rfl : i = k := by omega
                                                               exact HLT.out
            go_wp2_with (go_at_call 68; refine (rletter_any _ _).mono ?_; rintro e w1 ⟨rfl, rfl⟩; rw [HL.out])
            obtain ⟨wo, hwo⟩ : ∃ wo : World, wo = wr := ⟨_, rfl⟩
            rw [← hwo] at hb hbs HROW ⊢
            clear hwo
            go_loop [7] (fun i => ∃ p : Nat, i = .int .i64 p ∧ k ≤ p ∧ p < s.length ∧ LetsTo s k p) (fun i => s.length - (intOf i).toNat)
            case atStart => exact ⟨k, rfl, Nat.le_refl _, hlt, HL0.out⟩
            case round =>
              obtain ⟨p, rfl, hkp, hps, hlets⟩ := hrel
              have HLS := Lib.hid hlets; clear hlets
              by_cases hp1 : p + 1 < s.length
              · obtain ⟨c, hc0⟩ : ∃ c, s.getD (p + 1) 0 = c := ⟨_, rfl⟩
                have hgc : ∀ h, (ByteArray.mk s.toArray)[p + 1]'h = c := fun h => by rw [ba_get, hc0]
                have HC := Lib.hid hc0; clear hc0
                cases hlc : letU c
                · have HLC : Hid (letB (c.toNat : Int) = false) := hlc
                  have HCF := Lib.hid (show letU (s.getD (p + 1) 0) = false by rw [HC.out]; exact hlc)
                  clear hlc
                  have hsp := letsTo_span HLS.out hkp hps (fun _ => HCF.out)
                  have HSP := Lib.hid hsp
                  have hext := ext_span hkp hsp
                  clear hsp
                  obtain ⟨t, ht⟩ : ∃ t, (s.drop k).take (spanLen (s.drop k)) = t := ⟨_, rfl⟩
                  rw [ht] at hext
                  have htl : t.length ≤ 1000 := by rw [← ht]; simp; omega
                  have HT := Lib.hid ht; clear ht
                  have HLE : Hid (p + 1 ≤ s.length) := by show p + 1 ≤ s.length; omega
                  have HK1 := Lib.hid (show k + spanLen (s.drop k) = p + 1 by rw [HSP.out]; omega)
                  rcases Bool.eq_false_or_eq_true out.isEmpty with hoe | hoe
                  · skip
                    obtain rfl : out = [] := List.isEmpty_iff.1 hoe
                    clear hle hoe
                    cases hf : isFn (lowL t)
                    · have HF := Lib.hid hf
                      have HQ := Lib.hid (HK1.out ▸ ts_word HTS.out hlt HLT.out HT.out (w := t) (by rw [hf]; rfl) : TS s (p + 1) ([] ++ [t]) false)
                      clear hf
                      go_wp2_with (go_at_call 68; refine (rletter_any _ _).mono ?_; rintro e w1 ⟨rfl, rfl⟩; rw [HLC.out])
                      go_at_call 69; refine (rlower_any t _ (by omega)).mono ?_; rintro e w2 ⟨rfl, hb2⟩
                      have KB := Lib.hid hb2; clear hb2
                      have hbx := Lib.hid (hb.trans ((KB.out).mono hbs))
                      go_wp2_with (first | (at_builtin; refine wpList_append_own _ rfl _ _ 29 rfl w.heap.size 9 i0 (.string ⟨#[]⟩) 1 16 Tryz.underlying29 hi hz0 hz1 hz2 rfl (by decide) _ _ _ rfl ((row_later (HROW.out) (KB.out)).alloc _) ⟨w2.heap.size, 0, none⟩ 1 1 [str t] rfl rfl ?a3 ?b3 ?c3 ?d3 ?e3 ?_) | (go_at_call 36; refine (rfunction_any _ _).mono ?_; rintro e w3 ⟨rfl, rfl⟩; rw [HF.out]))
                      try (case a3 => exact str_new _ _ (by simp) _ _)
                      case b3 => simp [Value.oneCell']
                      case c3 => (unfold maxLen; omega)
                      case d3 => omega
                      case e3 => (have := (hbx.out).size; first | omega | (simp; omega))
                      intro v' w4 hown' hgrow _
                      have HG := Lib.hid ((hbx.out).alloc (by have := (hbx.out).size; first | omega | (simp; omega)) (.cells #[str t] 9) |>.grown hgrow (by have := (hbx.out).size; first | omega | (simp; omega)) (own_ge (HROW.out)))
                      clear hgrow
                      go_wp2_with fail
                      go_roundw
                      case rel => exact ⟨p + 1, _, _, by have := HLE.out; omega, by go_num, rfl, HQ.out, row_castS (out := []) hown' rfl, HG.out⟩
                      case measure => simp [intOf]; omega
                    · have HF := Lib.hid hf
                      have HQ := Lib.hid (HK1.out ▸ ts_word HTS.out hlt HLT.out HT.out (w := lowL t) (by rw [hf]; rfl) : TS s (p + 1) ([] ++ [lowL t]) false)
                      clear hf
                      go_wp2_with (go_at_call 68; refine (rletter_any _ _).mono ?_; rintro e w1 ⟨rfl, rfl⟩; rw [HLC.out])
                      go_at_call 69; refine (rlower_any t _ (by omega)).mono ?_; rintro e w2 ⟨rfl, hb2⟩
                      go_wp2_with fail
                      go_at_call 36; refine (rfunction_any _ _).mono ?_; rintro e w3 ⟨rfl, rfl⟩; rw [HF.out]
                      go_wp2_with fail
                      go_at_call 69; refine (rlower_any t _ (by omega)).mono ?_; rintro e w5 ⟨rfl, hb5⟩
                      have KB := Lib.hid (below_then hb2 hb5)
                      have hbx := Lib.hid (hb.trans ((KB.out).mono hbs))
                      go_wp2_with (first | (at_builtin; refine wpList_append_own _ rfl _ _ 29 rfl w.heap.size 9 i0 (.string ⟨#[]⟩) 1 16 Tryz.underlying29 hi hz0 hz1 hz2 rfl (by decide) _ _ _ rfl ((row_later (HROW.out) (KB.out)).alloc _) ⟨w5.heap.size, 0, none⟩ 1 1 [str (lowL t)] rfl rfl ?a4 ?b4 ?c4 ?d4 ?e4 ?_) | (go_at_call 36; refine (rfunction_any _ _).mono ?_; rintro e w3 ⟨rfl, rfl⟩; rw [HF.out]))
                      try (case a4 => exact str_new _ _ (by simp) _ _)
                      case b4 => simp [Value.oneCell']
                      case c4 => (unfold maxLen; omega)
                      case d4 => omega
                      case e4 => (have := (hbx.out).size; first | omega | (simp; omega))
                      intro v' w4 hown' hgrow _
                      have HG := Lib.hid ((hbx.out).alloc (by have := (hbx.out).size; first | omega | (simp; omega)) (.cells #[str (lowL t)] 9) |>.grown hgrow (by have := (hbx.out).size; first | omega | (simp; omega)) (own_ge (HROW.out)))
                      clear hgrow
                      go_wp2_with fail
                      go_roundw
                      case rel => exact ⟨p + 1, _, _, by have := HLE.out; omega, by go_num, rfl, HQ.out, row_castS (out := []) hown' rfl, HG.out⟩
                      case measure => simp [intOf]; omega
                  · skip
                    have hz : ((out.length : Int) == 0) = false := by rw [beq_eq_false_iff_ne]; intro e; have h0 : out = [] := List.eq_nil_of_length_eq_zero (by omega); rw [h0] at hoe; cases hoe
                    have HQ := Lib.hid (HK1.out ▸ ts_word HTS.out hlt HLT.out HT.out (w := t) (by rw [hoe]; rfl) : TS s (p + 1) (out ++ [t]) false)
                    clear hoe
                    go_wp2_with (first | (at_builtin; refine wpList_append_own _ rfl _ _ 29 rfl w.heap.size 9 i0 (.string ⟨#[]⟩) 1 16 Tryz.underlying29 hi hz0 hz1 hz2 rfl (by decide) _ _ _ rfl ((HROW.out).alloc _) ⟨wo.heap.size, 0, none⟩ 1 1 [str t] rfl rfl ?a5 ?b5 ?c5 ?d5 ?e5 ?_) | (go_at_call 68; refine (rletter_any _ _).mono ?_; rintro e w1 ⟨rfl, rfl⟩; rw [HLC.out]))
                    try (case a5 => exact str_new _ _ (by simp) _ _)
                    case b5 => simp [Value.oneCell']
                    case c5 => (unfold maxLen; omega)
                    case d5 => omega
                    case e5 => (have := (hb).size; first | omega | (simp; omega))
                    intro v' w4 hown' hgrow _
                    have HG := Lib.hid ((hb).alloc (by have := (hb).size; first | omega | (simp; omega)) (.cells #[str t] 9) |>.grown hgrow (by have := (hb).size; first | omega | (simp; omega)) (own_ge (HROW.out)))
                    clear hgrow
                    go_wp2_with fail
                    go_roundw
                    case rel => exact ⟨p + 1, _, _, by have := HLE.out; omega, by go_num, rfl, HQ.out, row_castS hown' rfl, HG.out⟩
                    case measure => simp [intOf]; omega
                · have HLC : Hid (letB (c.toNat : Int) = true) := hlc
                  have HCT := Lib.hid (show letU (s.getD (p + 1) 0) = true by rw [HC.out]; exact hlc)
                  clear hlc
                  go_wp2_with (go_at_call 68; refine (rletter_any _ _).mono ?_; rintro e w1 ⟨rfl, rfl⟩; rw [HLC.out])
                  go_round
                  case rel => exact ⟨p + 1, by go_num, by omega, hp1, fun i h1 h2 => by
                    rcases Nat.lt_or_ge p i with h3 | h3
                    · obtain rfl : i = p + 1 := by omega
                      exact HCT.out
                    · exact HLS.out i h1 h3⟩
                  case measure => simp [intOf]; omega
              · skip
                have hsp := letsTo_span HLS.out hkp hps (fun h => absurd h hp1)
                have HSP := Lib.hid hsp
                have hext := ext_span hkp hsp
                clear hsp
                obtain ⟨t, ht⟩ : ∃ t, (s.drop k).take (spanLen (s.drop k)) = t := ⟨_, rfl⟩
                rw [ht] at hext
                have htl : t.length ≤ 1000 := by rw [← ht]; simp; omega
                have HT := Lib.hid ht; clear ht
                have HLE : Hid (p + 1 ≤ s.length) := by show p + 1 ≤ s.length; omega
                have HK1 := Lib.hid (show k + spanLen (s.drop k) = p + 1 by rw [HSP.out]; omega)
                rcases Bool.eq_false_or_eq_true out.isEmpty with hoe | hoe
                · skip
                  obtain rfl : out = [] := List.isEmpty_iff.1 hoe
                  clear hle hoe
                  cases hf : isFn (lowL t)
                  · have HF := Lib.hid hf
                    have HQ := Lib.hid (HK1.out ▸ ts_word HTS.out hlt HLT.out HT.out (w := t) (by rw [hf]; rfl) : TS s (p + 1) ([] ++ [t]) false)
                    clear hf
                    go_wp2_with fail
                    go_at_call 69; refine (rlower_any t _ (by omega)).mono ?_; rintro e w2 ⟨rfl, hb2⟩
                    have KB := Lib.hid hb2; clear hb2
                    have hbx := Lib.hid (hb.trans ((KB.out).mono hbs))
                    go_wp2_with (first | (at_builtin; refine wpList_append_own _ rfl _ _ 29 rfl w.heap.size 9 i0 (.string ⟨#[]⟩) 1 16 Tryz.underlying29 hi hz0 hz1 hz2 rfl (by decide) _ _ _ rfl ((row_later (HROW.out) (KB.out)).alloc _) ⟨w2.heap.size, 0, none⟩ 1 1 [str t] rfl rfl ?a6 ?b6 ?c6 ?d6 ?e6 ?_) | (go_at_call 36; refine (rfunction_any _ _).mono ?_; rintro e w3 ⟨rfl, rfl⟩; rw [HF.out]))
                    try (case a6 => exact str_new _ _ (by simp) _ _)
                    case b6 => simp [Value.oneCell']
                    case c6 => (unfold maxLen; omega)
                    case d6 => omega
                    case e6 => (have := (hbx.out).size; first | omega | (simp; omega))
                    intro v' w4 hown' hgrow _
                    have HG := Lib.hid ((hbx.out).alloc (by have := (hbx.out).size; first | omega | (simp; omega)) (.cells #[str t] 9) |>.grown hgrow (by have := (hbx.out).size; first | omega | (simp; omega)) (own_ge (HROW.out)))
                    clear hgrow
                    go_wp2_with fail
                    go_roundw
                    case rel => exact ⟨p + 1, _, _, by have := HLE.out; omega, by go_num, rfl, HQ.out, row_castS (out := []) hown' rfl, HG.out⟩
                    case measure => simp [intOf]; omega
                  · have HF := Lib.hid hf
                    have HQ := Lib.hid (HK1.out ▸ ts_word HTS.out hlt HLT.out HT.out (w := lowL t) (by rw [hf]; rfl) : TS s (p + 1) ([] ++ [lowL t]) false)
                    clear hf
                    go_wp2_with fail
                    go_at_call 69; refine (rlower_any t _ (by omega)).mono ?_; rintro e w2 ⟨rfl, hb2⟩
                    go_wp2_with fail
                    go_at_call 36; refine (rfunction_any _ _).mono ?_; rintro e w3 ⟨rfl, rfl⟩; rw [HF.out]
                    go_wp2_with fail
                    go_at_call 69; refine (rlower_any t _ (by omega)).mono ?_; rintro e w5 ⟨rfl, hb5⟩
                    have KB := Lib.hid (below_then hb2 hb5)
                    have hbx := Lib.hid (hb.trans ((KB.out).mono hbs))
                    go_wp2_with (first | (at_builtin; refine wpList_append_own _ rfl _ _ 29 rfl w.heap.size 9 i0 (.string ⟨#[]⟩) 1 16 Tryz.underlying29 hi hz0 hz1 hz2 rfl (by decide) _ _ _ rfl ((row_later (HROW.out) (KB.out)).alloc _) ⟨w5.heap.size, 0, none⟩ 1 1 [str (lowL t)] rfl rfl ?a7 ?b7 ?c7 ?d7 ?e7 ?_) | (go_at_call 36; refine (rfunction_any _ _).mono ?_; rintro e w3 ⟨rfl, rfl⟩; rw [HF.out]))
                    try (case a7 => exact str_new _ _ (by simp) _ _)
                    case b7 => simp [Value.oneCell']
                    case c7 => (unfold maxLen; omega)
                    case d7 => omega
                    case e7 => (have := (hbx.out).size; first | omega | (simp; omega))
                    intro v' w4 hown' hgrow _
                    have HG := Lib.hid ((hbx.out).alloc (by have := (hbx.out).size; first | omega | (simp; omega)) (.cells #[str (lowL t)] 9) |>.grown hgrow (by have := (hbx.out).size; first | omega | (simp; omega)) (own_ge (HROW.out)))
                    clear hgrow
                    go_wp2_with fail
                    go_roundw
                    case rel => exact ⟨p + 1, _, _, by have := HLE.out; omega, by go_num, rfl, HQ.out, row_castS (out := []) hown' rfl, HG.out⟩
                    case measure => simp [intOf]; omega
                · skip
                  have hz : ((out.length : Int) == 0) = false := by rw [beq_eq_false_iff_ne]; intro e; have h0 : out = [] := List.eq_nil_of_length_eq_zero (by omega); rw [h0] at hoe; cases hoe
                  have HQ := Lib.hid (HK1.out ▸ ts_word HTS.out hlt HLT.out HT.out (w := t) (by rw [hoe]; rfl) : TS s (p + 1) (out ++ [t]) false)
                  clear hoe
                  go_wp2_with (first | (at_builtin; refine wpList_append_own _ rfl _ _ 29 rfl w.heap.size 9 i0 (.string ⟨#[]⟩) 1 16 Tryz.underlying29 hi hz0 hz1 hz2 rfl (by decide) _ _ _ rfl ((HROW.out).alloc _) ⟨wo.heap.size, 0, none⟩ 1 1 [str t] rfl rfl ?a8 ?b8 ?c8 ?d8 ?e8 ?_))
                  try (case a8 => exact str_new _ _ (by simp) _ _)
                  case b8 => simp [Value.oneCell']
                  case c8 => (unfold maxLen; omega)
                  case d8 => omega
                  case e8 => (have := (hb).size; first | omega | (simp; omega))
                  intro v' w4 hown' hgrow _
                  have HG := Lib.hid ((hb).alloc (by have := (hb).size; first | omega | (simp; omega)) (.cells #[str t] 9) |>.grown hgrow (by have := (hb).size; first | omega | (simp; omega)) (own_ge (HROW.out)))
                  clear hgrow
                  go_wp2_with fail
                  go_roundw
                  case rel => exact ⟨p + 1, _, _, by have := HLE.out; omega, by go_num, rfl, HQ.out, row_castS hown' rfl, HG.out⟩
                  case measure => simp [intOf]; omega
        · skip
          have HX := Lib.hid (HR.out ▸ ts_err HTS.out hlt hs HN32.out (by simp) : R = ([], (k : Int), 332))
          go_wp2_with fail
          go_ret3
          rw [HX.out]
          exact ⟨none, 0, rfl, Nat.le_refl _, Reads.none_, hb⟩
      · rw [h32] at e32
        have HQ := Lib.hid (ts_blank HTS.out hlt (by rw [HB.out]; exact beq_iff_eq.1 h32))
        clear h32
        go_wp2_with fail
        go_roundw
        case rel => exact ⟨k + 1, out, en, by omega, by go_num, rfl, HQ.out, HROW.out, hb⟩
        case measure => simp [intOf]; omega
    · obtain rfl : k = s.length := by omega
      have HX := Lib.hid (ts_end HTS.out hs)
      rw [HR.out] at HX
      cases en
      · have HX2 : Hid (R = ([], (s.length : Int), 332)) := HX.out
        go_wp2_with fail
        go_ret3
        rw [HX2.out]
        exact ⟨none, 0, rfl, Nat.le_refl _, Reads.none_, hb⟩
      · have HX2 : Hid (R = (out, 0, 0)) := HX.out
        have hrow := HROW.out
        go_wp2_with fail
        go_ret3
        rw [HX2.out]
        exact ⟨A', c', rfl, hle, Reads.of_own hrow, hb⟩
set_option maxRecDepth 100000 in
theorem rtokens_any (s : List UInt8) (w : World) (hm : s.length ≤ 140737488355328) : Calls Tryz.prog 33 #[str s] w (TokPost w (tokensR s).1 (tokensR s).2.1 (tokensR s).2.2) := by
  rcases Nat.lt_or_ge 1000 s.length with h | h
  · have HR : Hid (tokensR s = ([], 0, 3)) := by unfold tokensR; rw [if_pos h]; rfl
    have hd : decide (1000 < (s.length : Int)) = true := by simp; omega
    rw [HR.out]
    go_enter Tryz.func33, Tryz.ntmps33
    go_wp2_with fail
    go_ret3
    exact ⟨none, 0, rfl, Nat.le_refl _, Reads.none_, Below.refl _ _⟩
  · exact rtokens_short s w h
end Go.Proofs.YtbbgieopcmjoeaaGreatDoor
