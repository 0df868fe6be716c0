/- WordsWrites, WordsTexts: the laws' walks. -/
import Derived.Test.YtbbgieopcmjoeaaGreatDoorRefText
import Derived.Test.YtbbgieopcmjoeaaGreatDoorAppAny
namespace Go.Proofs.YtbbgieopcmjoeaaGreatDoor
open Go.RowKit
theorem toks_bound (s : List UInt8) : (tokensR s).1.length ≤ 1000 ∧ ∀ t ∈ (tokensR s).1, t.length ≤ 1000 := by
  rcases Nat.lt_or_ge 1000 s.length with h | h
  · have : tokensR s = ([], 0, 3) := by unfold tokensR; rw [if_pos h]
    rw [this]; simp
  · rcases tokensR_cases s h with ⟨l, hT⟩ | ⟨a, hT⟩
    · rw [hT]; exact tokens_bound hT
    · rw [hT]; simp
set_option maxRecDepth 100000 in
theorem copyTexts_any (l : List (List UInt8)) (A : Option Addr) (c : Nat) (w : World) (hl : l.length ≤ 8796093022208) (hr : Reads w w.heap.size 1 A l.length (l.map str)) :
    Calls Tryz.prog 38 #[.slice A l.length c] w fun e w' => ∃ A' c', e = .returned (.slice A' l.length c') ∧ l.length ≤ c' ∧ Reads w' w'.heap.size 1 A' l.length (l.map str) ∧ Below w.heap.size w w' := by
  obtain ⟨i0, hi, hz0, hz1, hz2⟩ := info_parts infoStr
  have HRD := Lib.hid hr; clear hr
  go_enter Tryz.func38, Tryz.ntmps38
  go_wp2_with (at_builtin; refine wpList_append_any _ rfl _ _ 29 rfl w.heap.size 9 i0 (.string ⟨#[]⟩) 1 16 Tryz.underlying29 hi hz0 hz1 hz2 rfl (by decide) (.slice none 0 0) 0 [] rfl (World.ownsRow_nil _ _ _ _) w.heap.size A l.length c (l.map str) rfl (HRD.out) ?a1 ?b1 ?c1 (Nat.le_refl _) ?_)
  case a1 =>
    intro u hu
    obtain ⟨t, -, rfl⟩ := List.mem_map.1 hu
    rfl
  case b1 => (unfold maxLen; omega)
  case c1 => omega
  intro v1 w1 hown1 hg1 _
  have HB := Lib.hid ((Below.refl w.heap.size w).grown hg1 (Nat.le_refl _) (by simp [Value.ownBlock]))
  clear hg1
  obtain ⟨A', c', rfl, hc'⟩ := own_form hown1
  have HO := Lib.hid (Reads.of_own hown1)
  clear hown1
  go_wp2_with fail
  go_ret
  exact ⟨A', c', rfl, hc', HO.out, HB.out⟩
set_option maxRecDepth 100000 in
set_option maxHeartbeats 3200000 in
theorem writes_any (s : List UInt8) (w : World) (hs : s.length ≤ 1200) : Calls Tryz.prog 9 #[str s] w fun e w' => e = .returned (.bool true) ∧ Below w.heap.size w w' := by
  obtain ⟨hb1, hb2⟩ := toks_bound s
  obtain ⟨l, p, er, hT⟩ : ∃ l p e, tokensR s = (l, p, e) := ⟨_, _, _, rfl⟩
  obtain ⟨x3, e3, h3⟩ : ∃ x e, thirdR s = (x, e) := ⟨_, _, rfl⟩
  obtain ⟨xt, et, ht⟩ : ∃ x e, textR l = (x, e) := ⟨_, _, rfl⟩
  rw [hT] at hb1 hb2
  have HT := Lib.hid hT; have H3 := Lib.hid h3; have HX := Lib.hid ht; clear hT h3 ht
  have hl1 : l.length ≤ 1000 := hb1
  have HL2 : Hid (∀ t ∈ l, t.length ≤ 1000) := hb2
  clear hb1 hb2
  generalize hf : isFn s = fb
  generalize ha : artL s = ab
  have HF := Lib.hid hf; have HA := Lib.hid ha; clear hf ha
  go_enter Tryz.func9, Tryz.ntmps9
  go_wp2_with fail
  go_at_call 26; refine (third_any s _ (by omega)).mono ?_; rw [H3.out]; rintro e w1 ⟨rfl, hb1⟩
  go_wp2_with fail
  go_at_call 32; refine (rthird_any s _ (by omega)).mono ?_; rw [H3.out]; rintro e w2 ⟨rfl, rfl⟩
  go_wp2_with fail
  go_at_call 27; refine (tokens_any s _ (by omega)).mono ?_; rw [HT.out]; rintro e w2 ⟨A2, c2, rfl, hc2, hr2, hb2⟩
  replace hb1 := below_then hb1 hb2; clear hb2
  go_wp2_with fail
  go_at_call 33; refine (rtokens_any s _ (by omega)).mono ?_; rw [HT.out]; rintro e w3 ⟨A3, c3, rfl, hc3, hr3, hb3⟩
  replace hb1 := below_then hb1 hb3; replace hr2 := hr2.later hb3; clear hb3
  go_wp2_with fail
  go_at_call 28; refine (text_any l A2 c2 _ (by omega) hc2 (fun t h => by have := HL2.out t h; omega) hr2).mono ?_; rw [HX.out]; rintro e w4 ⟨rfl, hb4⟩
  replace hb1 := below_then hb1 hb4; replace hr2 := hr2.later hb4; replace hr3 := hr3.later hb4; clear hb4
  go_wp2_with fail
  go_at_call 34; refine (rtext_any l A2 c2 _ (by omega) hc2 (fun t h => by have := HL2.out t h; omega) hr2).mono ?_; rw [HX.out]; rintro e w5 ⟨rfl, hb5⟩
  replace hb1 := below_then hb1 hb5; replace hr2 := hr2.later hb5; replace hr3 := hr3.later hb5; clear hb5
  go_wp2_with fail
  go_at_call 35; refine (function_any _ _).mono ?_; rw [HF.out]; rintro e w6 ⟨rfl, hb6⟩
  replace hb1 := below_then hb1 hb6; replace hr2 := hr2.later hb6; replace hr3 := hr3.later hb6; clear hb6
  go_wp2_with fail
  go_at_call 36; refine (rfunction_any _ _).mono ?_; rw [HF.out]; rintro e w7 ⟨rfl, rfl⟩
  go_wp2_with fail
  go_at_call 31; refine (article_any _ _).mono ?_; rw [HA.out]; rintro e w7 ⟨rfl, rfl⟩
  go_wp2_with fail
  go_at_call 37; refine (rarticle_any _ _).mono ?_; rw [HA.out]; rintro e w7 ⟨rfl, rfl⟩
  go_wp2_with fail
  go_at_call 30; refine (sameTexts_any l l A2 A3 c2 c3 _ (by omega) hr2 hr3).mono ?_; rw [beq_self_eq_true]; rintro e w8 ⟨rfl, hb8⟩
  go_wp2_with fail
  go_ret
  exact ⟨rfl, below_then hb1 hb8⟩
def ShortTo (l : List (List UInt8)) (k : Nat) : Prop := ∀ i (h : i < l.length), i < k → l[i].length ≤ 40
set_option maxRecDepth 100000 in
set_option maxHeartbeats 3200000 in
theorem wordsTexts_core (l : List (List UInt8)) (A : Option Addr) (c : Nat) (w : World) (hn : l.length ≤ 8796093022208) (hcap : l.length ≤ c) (ht : ∀ t ∈ l, t.length ≤ maxLen) (hr : Reads w w.heap.size 1 A l.length (l.map str)) :
    Calls Tryz.prog 10 #[.slice A l.length c] w fun e w' => e = .returned (.bool true) ∧ Below w.heap.size w w' := by
  have HRD := Lib.hid hr
  have HTM := Lib.hid ht
  clear hr ht
  go_enter Tryz.func10, Tryz.ntmps10
  go_wp2_with fail
  go_at_call 38; refine (copyTexts_any l A c _ hn HRD.out).mono ?_; rintro e w1 ⟨A1, c1, rfl, hc1, hr1, hb1⟩
  have HR1 := Lib.hid hr1
  have HR0 := Lib.hid ((HRD.out).later hb1)
  clear hr1
  go_wp2_with fail
  go_loop [4] (fun i => ∃ k : Nat, k ≤ l.length ∧ k ≤ 300 ∧ i = .int .i64 k ∧ ShortTo l k) (fun i => l.length - (intOf i).toNat)
  case atStart => exact ⟨0, Nat.zero_le _, by omega, rfl, fun i _ h => absurd h (by omega)⟩
  case round =>
    obtain ⟨k, hk, hk3, rfl, hsh⟩ := hrel
    have HS := Lib.hid hsh; clear hsh
    by_cases hlt : k < l.length
    · rcases Nat.lt_or_ge k 300 with h3 | h3
      · have h3n : ((k : Int) == 300) = false := by rw [beq_eq_false_iff_ne]; omega
        obtain ⟨b, off, hA, hB, hce⟩ := (HR0.out).at1 (k := k) (u := str l[k]) hlt (by simp [hlt])
        cases hA
        have htm := HTM.out _ (List.getElem_mem hlt)
        have HE : Hid (∀ i (h : i < l.length), i = k → l[i].length = (l[k]).length) := fun i h e => by subst e; rfl
        generalize hx : l[k] = x at hce htm HE
        clear hx
        unfold maxLen at htm
        rcases Nat.lt_or_ge 40 x.length with h4 | h4
        · go_wp2_with fail
          go_at_call 8; refine (awake_any _).mono ?_; rintro e w2 ⟨rfl, hb2⟩
          go_wp2_with fail
          go_ret
          exact ⟨rfl, below_then hb1 hb2⟩
        · have h4n : ¬ ((40 : Int) < (x.length : Int)) := by omega
          go_wp2_with fail
          go_round
          case rel => exact ⟨k + 1, by omega, by omega, by go_num, fun i h hi => by
            rcases Nat.lt_or_eq_of_le (Nat.lt_succ_iff.1 hi) with h5 | h5
            · exact HS.out i h h5
            · rw [HE.out i h h5]; omega⟩
          case measure => simp [intOf]; omega
      · obtain rfl : k = 300 := by omega
        go_wp2_with fail
        go_at_call 8; refine (awake_any _).mono ?_; rintro e w2 ⟨rfl, hb2⟩
        go_wp2_with fail
        go_ret
        exact ⟨rfl, below_then hb1 hb2⟩
    · obtain rfl : k = l.length := by omega
      have HL : Hid (∀ t ∈ l, t.length ≤ 40) := fun t h => by
        obtain ⟨i, hi, rfl⟩ := List.getElem_of_mem h
        exact HS.out i hi hi
      obtain ⟨xt, et, hx⟩ : ∃ x e, textR l = (x, e) := ⟨_, _, rfl⟩
      have HX := Lib.hid hx; clear hx
      have hr1 := HR1.out
      have hr0 := HR0.out
      go_wp2_with fail
      go_at_call 28; refine (text_any l A1 c1 _ (by omega) hc1 (fun t h => by have := HL.out t h; omega) hr1).mono ?_; rw [HX.out]; rintro e w4 ⟨rfl, hb4⟩
      replace hb1 := below_then hb1 hb4; replace hr1 := hr1.later hb4; replace hr0 := hr0.later hb4; clear hb4
      go_wp2_with fail
      go_at_call 34; refine (rtext_any l A c _ (by omega) hcap (fun t h => by have := HL.out t h; omega) hr0).mono ?_; rw [HX.out]; rintro e w5 ⟨rfl, hb5⟩
      replace hb1 := below_then hb1 hb5; replace hr1 := hr1.later hb5; replace hr0 := hr0.later hb5; clear hb5
      go_wp2_with fail
      go_at_call 30; refine (sameTexts_any l l A1 A c1 c _ (by omega) hr1 hr0).mono ?_; rw [beq_self_eq_true]; rintro e w8 ⟨rfl, hb8⟩
      replace hb1 := below_then hb1 hb8; clear hb8
      go_wp2_with fail
      go_at_call 8; refine (awake_any _).mono ?_; rintro e w2 ⟨rfl, hb2⟩
      go_wp2_with fail
      go_ret
      exact ⟨rfl, below_then hb1 hb2⟩
end Go.Proofs.YtbbgieopcmjoeaaGreatDoor
