/- The check that each statement makes first. -/
import Derived.Test.YtbbgieopcmjoeaaGreatDoorExample
namespace Go.Proofs.YtbbgieopcmjoeaaGreatDoor
open Go.RowKit
def awBases : List (List UInt8) := [[107, 110, 111, 119], [119, 97, 116, 99, 104], [103, 111], [112, 108, 97, 121], [116, 114, 121], [121]]
def awThirds : List (List UInt8) := [[107, 110, 111, 119, 115], [119, 97, 116, 99, 104, 101, 115], [103, 111, 101, 115], [112, 108, 97, 121, 115], [116, 114, 105, 101, 115], [121, 115]]
def awWant : List (List UInt8) := [[101, 118, 101, 114, 121], [115, 116, 117, 100, 101, 110, 116], [44], [119, 104, 111], [115, 108, 101, 101, 112, 115], [44], [107, 110, 111, 119, 115], [65, 110, 110], [46]]
theorem aw_third : ∀ k, k < 6 → ∃ x y, awBases[k]? = some x ∧ awThirds[k]? = some y ∧ x.length ≤ 10 ∧ thirdR x = (y, 0) := by
  intro k hk
  rcases k with _ | _ | _ | _ | _ | _ | k
  · exact ⟨_, _, rfl, rfl, by decide, by kernel_rfl⟩
  · exact ⟨_, _, rfl, rfl, by decide, by kernel_rfl⟩
  · exact ⟨_, _, rfl, rfl, by decide, by kernel_rfl⟩
  · exact ⟨_, _, rfl, rfl, by decide, by kernel_rfl⟩
  · exact ⟨_, _, rfl, rfl, by decide, by kernel_rfl⟩
  · exact ⟨_, _, rfl, rfl, by decide, by kernel_rfl⟩
  · omega
theorem aw_t1 : tokensR [69, 118, 101, 114, 121, 32, 115, 116, 117, 100, 101, 110, 116, 32, 44, 32, 119, 104, 111, 32, 115, 108, 101, 101, 112, 115, 44, 32, 107, 110, 111, 119, 115, 32, 65, 110, 110, 32, 46] = (awWant, 0, 0) := by kernel_rfl
theorem aw_t2 : tokensR [65, 110, 110, 32, 115, 108, 101, 101, 112, 115] = ([], 10, 332) := by kernel_rfl
theorem aw_t3 : tokensR [65, 110, 110, 46, 32, 66, 111, 98, 46] = ([], 5, 332) := by kernel_rfl
theorem aw_t4 : tokensR [44, 32, 65, 110, 110, 46] = ([], 0, 332) := by kernel_rfl
theorem aw_t5 : tokensR [65, 110, 110, 32, 50, 46] = ([], 4, 332) := by kernel_rfl
theorem aw_x : textR awWant = ([69, 118, 101, 114, 121, 32, 115, 116, 117, 100, 101, 110, 116, 44, 32, 119, 104, 111, 32, 115, 108, 101, 101, 112, 115, 44, 32, 107, 110, 111, 119, 115, 32, 65, 110, 110, 46], 0) := by kernel_rfl
theorem aw_v : validL exL = true := by kernel_rfl
theorem aw_l : lookR exL [112, 108, 97, 121, 115] = ([(6, true), (7, true)], 0) := by kernel_rfl
theorem aw_a : artL [111, 119, 108] = [97, 110] := by kernel_rfl
theorem aw_tok {s : List UInt8} {toks : List (List UInt8)} {n : Nat} {p er : Int} (h : tokensR s = (toks, p, er)) (hn : toks.length = n) (hs : s.length ≤ 1000) (w : World) :
    Calls Tryz.prog 27 #[str s] w fun e w' => ∃ A c, e = .returned (.tuple #[.slice A n c, .int .i64 p, .int .i64 er]) ∧ n ≤ c ∧ Reads w' w'.heap.size 1 A n (toks.map str) ∧ Below w.heap.size w w' := by
  subst hn
  refine (tokens_any s w (by omega)).mono ?_
  rw [h]
  rintro e w' ⟨A, c, rfl, h1, h2, h3⟩
  exact ⟨A, c, rfl, h1, h2, h3⟩
theorem aw_text (A : Option Addr) (c : Nat) (w : World) (hc : 9 ≤ c) (hr : Reads w w.heap.size 1 A 9 (awWant.map str)) :
    Calls Tryz.prog 28 #[.slice A 9 c] w fun e w' => e = .returned (.tuple #[str [69, 118, 101, 114, 121, 32, 115, 116, 117, 100, 101, 110, 116, 44, 32, 119, 104, 111, 32, 115, 108, 101, 101, 112, 115, 44, 32, 107, 110, 111, 119, 115, 32, 65, 110, 110, 46], .int .i64 0]) ∧ Below w.heap.size w w' := by
  have h := text_any awWant A c w (by decide) hc (by decide) hr
  rw [aw_x] at h
  exact h
theorem aw_same (A B : Option Addr) (ca cb : Nat) (w : World) (hA : Reads w w.heap.size 1 A 9 (awWant.map str)) (hB : Reads w w.heap.size 1 B 9 (awWant.map str)) :
    Calls Tryz.prog 30 #[.slice A 9 ca, .slice B 9 cb] w fun e w' => e = .returned (.bool true) ∧ Below w.heap.size w w' := by
  have h := sameTexts_any awWant awWant A B ca cb w (by decide) hA hB
  rw [beq_self_eq_true] at h
  exact h
theorem aw_valid (A : Option Addr) (c : Nat) (w : World) (hc : 12 ≤ c) (hr : Reads w w.heap.size 3 A 12 (flat exL)) :
    Calls Tryz.prog 17 #[.slice A 12 c] w fun e w' => e = .returned (.bool true) ∧ Below w.heap.size w w' := by
  have h := valid_any exL A c w (by decide) hc hr
  rw [aw_v] at h
  exact h
theorem aw_look (A : Option Addr) (c : Nat) (w : World) (hc : 12 ≤ c) (hr : Reads w w.heap.size 3 A 12 (flat exL)) :
    Calls Tryz.prog 15 #[.slice A 12 c, str [112, 108, 97, 121, 115]] w fun e w' => ∃ b off c, e = .returned (.tuple #[.slice (some ⟨b, off, none⟩) 2 c, .int .i64 0]) ∧ b < w'.heap.size ∧ w'.cell? ⟨b, off + 2, none⟩ = some (.int .i64 7) ∧ w'.cell? ⟨b, off + 3, none⟩ = some (.bool true) ∧ Below w.heap.size w w' := by
  refine (look_any exL [112, 108, 97, 121, 115] A c w (by decide) hc hr).mono ?_
  rw [aw_l]
  rintro e w' ⟨A', c', rfl, h1, h2, h3⟩
  obtain ⟨ad, rfl, hb, hcell⟩ := h2.2 (by decide)
  have hs : ad.spot = none := World.cell?_spot (by simpa [Addr.add] using hcell 0 _ rfl)
  obtain ⟨b, off, spot⟩ := ad
  obtain rfl : spot = none := hs
  have k2 := hcell 2 _ rfl
  have k3 := hcell 3 _ rfl
  rw [addr_add] at k2 k3
  exact ⟨b, off, c', rfl, hb, k2, k3, h3⟩
set_option maxRecDepth 100000 in
set_option maxHeartbeats 3200000 in
theorem awake_any (w : World) : Calls Tryz.prog 8 #[] w fun e w' => e = .returned (.bool true) ∧ Below w.heap.size w w' := by
  go_enter Tryz.func8, Tryz.ntmps8
  go_wp2_with fail
  have hb2 : Below w.heap.size w ((w.alloc (.cells (awBases.map str).toArray 9)).alloc (.cells (awThirds.map str).toArray 9)) := ((Below.refl _ _).alloc (Nat.le_refl _) _).alloc (by simp) _
  have HR1 := Lib.hid (((Reads.new w 9 1 6 (awBases.map str) rfl).alloc (by simp) (.cells (awThirds.map str).toArray 9)).more (B' := ((w.alloc (.cells (awBases.map str).toArray 9)).alloc (.cells (awThirds.map str).toArray 9)).heap.size) (by simp))
  have HR2 := Lib.hid (Reads.new2 (w.alloc (.cells (awBases.map str).toArray 9)) 9 1 6 _ (awThirds.map str) rfl rfl)
  generalize hW0 : (w.alloc (.cells (awBases.map str).toArray 9)).alloc (.cells (awThirds.map str).toArray 9) = W0 at hb2 HR1 HR2
  go_loopw [3, 4, 5] (fun i _ _ wr => ∃ k : Nat, k ≤ 6 ∧ i = .int .i64 k ∧ Below W0.heap.size W0 wr) (fun i _ _ _ => 6 - (intOf i).toNat)
  case atStart => exact ⟨0, Nat.zero_le _, rfl, by first | exact Below.refl _ _ | (rw [← hW0]; exact Below.refl _ _)⟩
  case round =>
    obtain ⟨k, hk, rfl, hb⟩ := hrel
    rcases Nat.lt_or_ge k 6 with hlt | hge
    · obtain ⟨x, y, hx, hy, hxl, hT⟩ := aw_third k hlt
      obtain ⟨b1, o1, ha1, hB1, hc1⟩ := ((HR1.out).below hb).at1 (k := k) (u := str x) hlt (by simp [hx])
      obtain ⟨b2, o2, ha2, hB2, hc2⟩ := ((HR2.out).below hb).at1 (k := k) (u := str y) hlt (by simp [hy])
      cases ha1; cases ha2
      simp only [Nat.zero_add, World.size_alloc] at hc1 hc2
      have HT := Lib.hid hT
      have q2 : w.heap.size + 1 < wr.heap.size := by have h3 := hB2; have := hb.size; simp at h3; omega
      clear hx hy hT
      go_wp2_with fail
      go_at_call 26
      refine (third_any x _ (by omega)).mono ?_
      rintro e wn ⟨rfl, hbn⟩; rw [HT.out]
      have hcn := (hbn.cell (p := ⟨w.heap.size + 1, k, none⟩) q2).trans hc2
      go_wp2_with fail
      go_roundw
      case rel => exact ⟨k + 1, by omega, by go_num, hb.trans (hbn.mono hb.size)⟩
      case measure => simp [intOf]; omega
    · obtain rfl : k = 6 := by omega
      have HE := Lib.hid (hb2.trans (hb.mono hb2.size))
      clear hge hb hb2 HR1 HR2
      have HN := Lib.hid (Reads.new2 wr 9 1 9 _ (awWant.map str) rfl rfl)
      have HEn := Lib.hid ((HE.out).alloc (HE.out).size (.cells (awWant.map str).toArray 9))
      go_wp2_with fail
      go_at_call 27
      refine (aw_tok aw_t1 rfl (by decide) _).mono ?_; rintro e wA ⟨Aa, ca, rfl, hcA, hRA, hbA⟩
      have HNA := Lib.hid ((HN.out).later hbA); have HEA := Lib.hid ((HEn.out).trans (hbA.mono (HEn.out).size)); have HRA := Lib.hid hRA; clear hRA hbA HN HE HEn
      go_wp2_with fail
      go_at_call 28
      refine (aw_text _ _ _ (by omega) HNA.out).mono ?_; rintro e wB ⟨rfl, hbB⟩
      have HNB := Lib.hid ((HNA.out).later hbB); have HEB := Lib.hid ((HEA.out).trans (hbB.mono (HEA.out).size)); have HRB := Lib.hid ((HRA.out).later hbB); clear hbB HNA HEA HRA
      go_wp2_with fail
      go_at_call 27
      refine (aw_tok aw_t2 rfl (by decide) _).mono ?_; rintro e wC ⟨Ab, cb, rfl, hcB, -, hbC⟩
      have HNC := Lib.hid ((HNB.out).later hbC); have HEC := Lib.hid ((HEB.out).trans (hbC.mono (HEB.out).size)); have HRC := Lib.hid ((HRB.out).later hbC); clear hbC HNB HEB HRB hcB
      go_wp2_with fail
      go_at_call 27
      refine (aw_tok aw_t3 rfl (by decide) _).mono ?_; rintro e wD ⟨Ac, cc, rfl, hcB, -, hbD⟩
      have HND := Lib.hid ((HNC.out).later hbD); have HED := Lib.hid ((HEC.out).trans (hbD.mono (HEC.out).size)); have HRD := Lib.hid ((HRC.out).later hbD); clear hbD HNC HEC HRC hcB
      go_wp2_with fail
      go_at_call 27
      refine (aw_tok aw_t4 rfl (by decide) _).mono ?_; rintro e wE ⟨Ad, cd, rfl, hcB, -, hbE⟩
      have HNE := Lib.hid ((HND.out).later hbE); have HEE := Lib.hid ((HED.out).trans (hbE.mono (HED.out).size)); have HRE := Lib.hid ((HRD.out).later hbE); clear hbE HND HED HRD hcB
      go_wp2_with fail
      go_at_call 27
      refine (aw_tok aw_t5 rfl (by decide) _).mono ?_; rintro e wF ⟨Ae, ce, rfl, hcB, -, hbF⟩
      have HNF := Lib.hid ((HNE.out).later hbF); have HEF := Lib.hid ((HEE.out).trans (hbF.mono (HEE.out).size)); have HRF := Lib.hid ((HRE.out).later hbF); clear hbF HNE HEE HRE hcB
      go_wp2_with fail
      go_at_call 29
      refine (example_any _).mono ?_; rintro e wG ⟨Ag, rfl, hRg, hbG⟩
      have HX := Lib.hid hRg; have HNG := Lib.hid ((HNF.out).later hbG); have HEG := Lib.hid ((HEF.out).trans (hbG.mono (HEF.out).size)); have HRG := Lib.hid ((HRF.out).later hbG); clear hRg hbG HNF HEF HRF
      go_wp2_with fail
      go_at_call 15
      refine (aw_look _ _ _ (by omega) HX.out).mono ?_; rintro e wH ⟨bl, ol, cl, rfl, hbl, hl2, hl3, hbH⟩
      have HNH := Lib.hid ((HNG.out).later hbH); have HEH := Lib.hid ((HEG.out).trans (hbH.mono (HEG.out).size)); have HRH := Lib.hid ((HRG.out).later hbH); clear hbH HNG HEG HRG
      go_wp2_with fail
      go_at_call 30
      refine (aw_same _ _ _ _ _ HRH.out HNH.out).mono ?_; rintro e wI ⟨rfl, hbI⟩
      have hbl1 := Nat.lt_of_lt_of_le hbl hbI.size
      have l2 := (hbI.cell (p := ⟨bl, ol + 2, none⟩) hbl).trans hl2; have l3 := (hbI.cell (p := ⟨bl, ol + 3, none⟩) hbl).trans hl3
      have HEI := Lib.hid ((HEH.out).trans (hbI.mono (HEH.out).size)); clear hbI hl2 hl3 hbl HEH HNH HRH
      go_wp2_with fail
      go_at_call 31
      refine (article_any [111, 119, 108] _).mono ?_; rintro e wJ ⟨rfl, rfl⟩; rw [aw_a]
      go_wp2_with fail
      go_at_call 29
      refine (example_any _).mono ?_; rintro e wK ⟨Ak, rfl, hRk, hbK⟩
      have hbl2 := Nat.lt_of_lt_of_le hbl1 hbK.size
      have m2 := (hbK.cell (p := ⟨bl, ol + 2, none⟩) hbl1).trans l2; have m3 := (hbK.cell (p := ⟨bl, ol + 3, none⟩) hbl1).trans l3
      have HXk := Lib.hid hRk; have HEK := Lib.hid ((HEI.out).trans (hbK.mono (HEI.out).size)); clear hbK hRk HEI l2 l3 hbl1
      go_wp2_with fail
      go_at_call 17
      refine (aw_valid _ _ _ (by omega) HXk.out).mono ?_; rintro e wL ⟨rfl, hbL⟩
      have n2 := (hbL.cell (p := ⟨bl, ol + 2, none⟩) hbl2).trans m2; have n3 := (hbL.cell (p := ⟨bl, ol + 3, none⟩) hbl2).trans m3
      have HEL := Lib.hid ((HEK.out).trans (hbL.mono (HEK.out).size)); clear hbL HEK m2 m3 hbl2
      go_wp2_with fail
      go_ret
      exact ⟨rfl, HEL.out⟩
end Go.Proofs.YtbbgieopcmjoeaaGreatDoor
