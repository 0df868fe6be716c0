/- WordsPlace: the law's walk. -/
import Derived.Test.YtbbgieopcmjoeaaDoorLawPlace
namespace Go.Proofs.YtbbgieopcmjoeaaDoor
open Go.RowKit
set_option maxRecDepth 100000 in
set_option maxHeartbeats 3200000 in
theorem wordsPlace_core (s b : List UInt8) (w : World) (hs : s.length ≤ maxLen) (ht : b.length ≤ maxLen) : Calls Tryd.prog 6 #[str s, str b] w fun e w' => e = .returned (.bool true) ∧ Below w.heap.size w w' := by
  unfold maxLen at hs ht
  cases hd : decide (500 < (s.length : Int))
  · cases hd2 : decide (400 < (b.length : Int))
    · have hs5 : s.length ≤ 500 := by simp at hd; omega
      have hb4 : b.length ≤ 400 := by simp at hd2; omega
      rcases tokensR_cases s (by omega) with ⟨l, hT⟩ | ⟨a, hT⟩
      · have HT := Lib.hid hT; clear hT
        go_enter Tryd.func6, Tryd.ntmps6
        go_wp2_with fail
        go_at_call 12; refine (awake_any _).mono ?_; rintro e w1 ⟨rfl, hb1⟩
        go_wp2_with fail
        go_at_call 21; refine (tokens_any s _ (by omega)).mono ?_; rintro e w2 ⟨A2, c2, rfl, -, -, hb2⟩; rw [HT.out]
        go_wp2_with fail
        go_ret
        exact ⟨rfl, below_then hb1 hb2⟩
      · have ha : a ≤ s.length := by
          obtain ⟨p, q, st, rfl, rfl, -⟩ := tokens_err hT
          simp
        have hB := place_begin hT hs5
        have hX0 : (s.take a).length ≤ 500 := by simp; omega
        have hX1 : (s.take a ++ [46]).length ≤ 501 := by simp; omega
        have hX2 : (s.take a ++ [32, 120, 46]).length ≤ 503 := by simp; omega
        obtain ⟨l0, p0, e0, h0⟩ : ∃ l p e, tokensR (s.take a) = (l, p, e) := ⟨_, _, _, rfl⟩
        obtain ⟨l1, p1, e1, h1⟩ : ∃ l p e, tokensR (s.take a ++ [46]) = (l, p, e) := ⟨_, _, _, rfl⟩
        obtain ⟨l2, p2, e2, h2⟩ : ∃ l p e, tokensR (s.take a ++ [32, 120, 46]) = (l, p, e) := ⟨_, _, _, rfl⟩
        rw [h0, h1, h2] at hB
        have H0 := Lib.hid h0; have H1 := Lib.hid h1; have H2 := Lib.hid h2; clear h0 h1 h2
        have hB' : e0 = 0 ∨ (e1 = 0 ∧ 1 < l1.length) ∨ (e2 = 0 ∧ 1 < l2.length) := hB
        have HB := Lib.hid hB'; clear hB hB'
        cases hlt : decide ((a : Int) < (s.length : Int))
        · have hle' : s.length ≤ a := by simp at hlt; omega
          have HT := Lib.hid hT; clear hT
          go_enter Tryd.func6, Tryd.ntmps6
          go_wp2_with fail
          go_at_call 12; refine (awake_any _).mono ?_; rintro e w1 ⟨rfl, hb1⟩
          go_wp2_with fail
          go_at_call 21; refine (tokens_any s _ (by omega)).mono ?_; rintro e w2 ⟨A2, c2, rfl, -, -, hb2⟩; rw [HT.out]; replace hb1 := below_then hb1 hb2; clear hb2
          go_wp2_with fail
          go_at_call 21; rw [cut_add]; refine (tokens_any (s.take a ++ [46]) _ (by omega)).mono ?_; rintro e w4 ⟨A4, c4, rfl, -, -, hb2⟩; rw [H1.out]; replace hb1 := below_then hb1 hb2; clear hb2
          go_wp2_with fail
          go_at_call 21; rw [cut_add]; refine (tokens_any (s.take a ++ [32, 120, 46]) _ (by omega)).mono ?_; rintro e w5 ⟨A5, c5, rfl, -, -, hb2⟩; rw [H2.out]; replace hb1 := below_then hb1 hb2; clear hb2
          go_wp2_with fail
          go_at_call 21; rw [ext_front]; refine (tokens_any (s.take a) _ (by omega)).mono ?_; rintro e w6 ⟨A6, c6, rfl, -, -, hb2⟩; rw [H0.out]; replace hb1 := below_then hb1 hb2; clear hb2
          cases k0 : (e0 == 0)
          · cases k1 : (e1 == 0)
            · obtain ⟨rfl, hz⟩ : e2 = 0 ∧ 1 < l2.length := by rcases HB.out with h | ⟨h, -⟩ | h <;> simp_all
              have hz2 : decide (1 < (l2.length : Int)) = true := by simp; omega
              go_wp2_with fail
              go_ret
              exact ⟨rfl, hb1⟩
            · cases k2 : decide (1 < (l1.length : Int))
              · obtain ⟨rfl, hz⟩ : e2 = 0 ∧ 1 < l2.length := by
                  have hk : ¬ (1 < l1.length) := by simp at k2; omega
                  rcases HB.out with h | ⟨-, h⟩ | h
                  · simp_all
                  · exact absurd h hk
                  · exact h
                have hz2 : decide (1 < (l2.length : Int)) = true := by simp; omega
                go_wp2_with fail
                go_ret
                exact ⟨rfl, hb1⟩
              · go_wp2_with fail
                go_ret
                exact ⟨rfl, hb1⟩
          · go_wp2_with fail
            go_ret
            exact ⟨rfl, hb1⟩
        · have hlt' : a < s.length := by simp at hlt; omega
          have hX3 : (s.take (a + 1) ++ b).length ≤ 901 := by simp; omega
          have HA := Lib.hid (place_again (behind := b) hT hlt' (by omega))
          have HT := Lib.hid hT; clear hT
          go_enter Tryd.func6, Tryd.ntmps6
          go_wp2_with fail
          go_at_call 12; refine (awake_any _).mono ?_; rintro e w1 ⟨rfl, hb1⟩
          go_wp2_with fail
          go_at_call 21; refine (tokens_any s _ (by omega)).mono ?_; rintro e w2 ⟨A2, c2, rfl, -, -, hb2⟩; rw [HT.out]; replace hb1 := below_then hb1 hb2; clear hb2
          go_wp2_with fail
          go_at_call 21; rw [cut_add]; refine (tokens_any (s.take (a + 1) ++ b) _ (by omega)).mono ?_; rintro e w3 ⟨A3, c3, rfl, -, -, hb2⟩; rw [HA.out]; replace hb1 := below_then hb1 hb2; clear hb2
          go_wp2_with fail
          go_at_call 21; rw [cut_add]; refine (tokens_any (s.take a ++ [46]) _ (by omega)).mono ?_; rintro e w4 ⟨A4, c4, rfl, -, -, hb2⟩; rw [H1.out]; replace hb1 := below_then hb1 hb2; clear hb2
          go_wp2_with fail
          go_at_call 21; rw [cut_add]; refine (tokens_any (s.take a ++ [32, 120, 46]) _ (by omega)).mono ?_; rintro e w5 ⟨A5, c5, rfl, -, -, hb2⟩; rw [H2.out]; replace hb1 := below_then hb1 hb2; clear hb2
          go_wp2_with fail
          go_at_call 21; rw [ext_front]; refine (tokens_any (s.take a) _ (by omega)).mono ?_; rintro e w6 ⟨A6, c6, rfl, -, -, hb2⟩; rw [H0.out]; replace hb1 := below_then hb1 hb2; clear hb2
          cases k0 : (e0 == 0)
          · cases k1 : (e1 == 0)
            · obtain ⟨rfl, hz⟩ : e2 = 0 ∧ 1 < l2.length := by rcases HB.out with h | ⟨h, -⟩ | h <;> simp_all
              have hz2 : decide (1 < (l2.length : Int)) = true := by simp; omega
              go_wp2_with fail
              go_ret
              exact ⟨rfl, hb1⟩
            · cases k2 : decide (1 < (l1.length : Int))
              · obtain ⟨rfl, hz⟩ : e2 = 0 ∧ 1 < l2.length := by
                  have hk : ¬ (1 < l1.length) := by simp at k2; omega
                  rcases HB.out with h | ⟨-, h⟩ | h
                  · simp_all
                  · exact absurd h hk
                  · exact h
                have hz2 : decide (1 < (l2.length : Int)) = true := by simp; omega
                go_wp2_with fail
                go_ret
                exact ⟨rfl, hb1⟩
              · go_wp2_with fail
                go_ret
                exact ⟨rfl, hb1⟩
          · go_wp2_with fail
            go_ret
            exact ⟨rfl, hb1⟩
    · go_enter Tryd.func6, Tryd.ntmps6
      go_wp2_with (go_at_call 12; refine (awake_any _).mono ?_; rintro e w1 ⟨rfl, hb1⟩)
      go_ret
      exact ⟨rfl, hb1⟩
  · go_enter Tryd.func6, Tryd.ntmps6
    go_wp2_with (go_at_call 12; refine (awake_any _).mono ?_; rintro e w1 ⟨rfl, hb1⟩)
    go_ret
    exact ⟨rfl, hb1⟩
end Go.Proofs.YtbbgieopcmjoeaaDoor
