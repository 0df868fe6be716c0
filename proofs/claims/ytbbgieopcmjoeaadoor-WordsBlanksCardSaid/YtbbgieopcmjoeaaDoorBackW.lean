/- WordsBack: the law's walk. -/
import Derived.Test.YtbbgieopcmjoeaaDoorBackQ
import Derived.Test.YtbbgieopcmjoeaaDoorShelf
namespace Go.Proofs.YtbbgieopcmjoeaaDoor
open Go.RowKit
theorem cell_in {W : World} {p : Addr} {u : Value} (h : W.cell? p = some u) : p.block < W.heap.size := by
  rcases Nat.lt_or_ge p.block W.heap.size with h1 | h1
  · exact h1
  · unfold World.cell? at h
    rw [Array.getElem?_eq_none h1] at h
    simp at h
theorem contains_two (t : List UInt8) (x : UInt8) (m : Int) (w : World) (ht : t.length ≤ 1000) (hm : w.cell? ⟨0, 0, none⟩ = some (.int .i64 m)) (hx : letU x = false) (hb : blOk t = true) :
    Calls Tryd.prog 24 #[str t, str [32, x]] w fun e w' => e = .returned (.bool false) ∧ w = w' := by
  refine (Tryd.strings_Contains ⟨t.toArray⟩ ⟨[32, x].toArray⟩ m w (by show t.length < _; omega) hm).mono ?_
  rintro e w' ⟨rfl, rfl⟩
  refine ⟨ret_bool ?_, rfl⟩
  exact no_contains hx hb
set_option maxRecDepth 100000 in
set_option maxHeartbeats 3200000 in
theorem wordsBack_core (s : List UInt8) (w : World) (hs : s.length ≤ maxLen) (m : Int) (hm : w.cell? ⟨0, 0, none⟩ = some (.int .i64 m)) : Calls Tryd.prog 8 #[str s] w fun e w' => e = .returned (.bool true) ∧ Below w.heap.size w w' := by
  unfold maxLen at hs
  have hz : 0 < w.heap.size := cell_in hm
  cases hd : decide (1200 < (s.length : Int))
  · have hs12 : s.length ≤ 1200 := by simp at hd; omega
    rcases Nat.lt_or_ge 1000 s.length with hd2 | hd2
    · have HT : Hid (tokensR s = ([], 0, 3)) := by unfold tokensR; rw [if_pos hd2]; rfl
      go_enter Tryd.func8, Tryd.ntmps8
      go_wp2_with fail
      go_at_call 12; refine (awake_any _).mono ?_; rintro e w1 ⟨rfl, hb1⟩
      go_wp2_with fail
      go_at_call 21; refine (tokens_any s _ (by omega)).mono ?_; rw [HT.out]; rintro e w2 ⟨A2, c2, rfl, -, -, hb2⟩
      go_wp2_with fail
      go_ret
      exact ⟨rfl, below_then hb1 hb2⟩
    · rcases tokensR_cases s hd2 with ⟨l, hT⟩ | ⟨a, hT⟩
      · obtain ⟨-, hg⟩ := tokens_good hT
        obtain ⟨hl1, hl2⟩ := tokens_bound hT
        have HT := Lib.hid hT; clear hT
        have hsh := good_shape hg
        rcases Nat.lt_or_ge 1000 (joinK l l.length).length with hj | hj
        · have HX : Hid (textR l = ([], 3)) := by unfold textR; rw [hsh, if_pos rfl, if_pos hj]; rfl
          clear hsh hg
          go_enter Tryd.func8, Tryd.ntmps8
          go_wp2_with fail
          go_at_call 12; refine (awake_any _).mono ?_; rintro e w1 ⟨rfl, hb1⟩
          go_wp2_with fail
          go_at_call 21; refine (tokens_any s _ (by omega)).mono ?_; rw [HT.out]; rintro e w2 ⟨A2, c2, rfl, hc2, hr2, hb2⟩
          go_wp2_with fail
          go_at_call 14; refine (text_any l A2 c2 _ (by omega) hc2 (fun t h => by have := hl2 t h; omega) hr2).mono ?_; rw [HX.out]; rintro e w3 ⟨rfl, hb3⟩
          go_wp2_with fail
          go_ret
          exact ⟨rfl, below_then hb1 (below_then hb2 hb3)⟩
        · have HX : Hid (textR l = (joinK l l.length, 0)) := by unfold textR; rw [hsh, if_pos rfl, if_neg (by omega)]; rfl
          have HT2 := Lib.hid (back_tokens hg hj)
          have HB := Lib.hid (back_blanks hg)
          clear hsh hg
          generalize joinK l l.length = t at hj HX HT2 HB
          go_enter Tryd.func8, Tryd.ntmps8
          go_wp2_with fail
          go_at_call 12; refine (awake_any _).mono ?_; rintro e w1 ⟨rfl, hb1⟩
          go_wp2_with fail
          go_at_call 21; refine (tokens_any s _ (by omega)).mono ?_; rw [HT.out]; rintro e w2 ⟨A2, c2, rfl, hc2, hr2, hb2⟩
          go_wp2_with fail
          go_at_call 14; refine (text_any l A2 c2 _ (by omega) hc2 (fun t h => by have := hl2 t h; omega) hr2).mono ?_; rw [HX.out]; rintro e w3 ⟨rfl, hb3⟩
          have hr3 := hr2.later hb3
          go_wp2_with fail
          go_at_call 21; refine (tokens_any t _ (by omega)).mono ?_; rw [HT2.out]; rintro e w4 ⟨A4, c4, rfl, hc4, hr4, hb4⟩
          have hr5 := hr3.later hb4
          have hball := below_then hb1 (below_then hb2 (below_then hb3 hb4))
          go_wp2_with fail
          go_at_call 16; refine (sameTexts_any l l A2 A4 c2 c4 _ (by omega) hr5 hr4).mono ?_; rw [beq_self_eq_true]; rintro e w6 ⟨rfl, hb6⟩
          have hm6 := (below_then hball hb6).cell (p := ⟨0, 0, none⟩) hz |>.trans hm
          go_wp2_with fail
          go_at_call 24; refine (contains_two t 32 m _ hj hm6 (by decide) HB.out).mono ?_; rintro e w7 ⟨rfl, rfl⟩
          go_wp2_with fail
          go_at_call 24; refine (contains_two t 44 m _ hj hm6 (by decide) HB.out).mono ?_; rintro e w8 ⟨rfl, rfl⟩
          go_wp2_with fail
          go_at_call 24; refine (contains_two t 46 m _ hj hm6 (by decide) HB.out).mono ?_; rintro e w9 ⟨rfl, rfl⟩
          go_wp2_with fail
          go_ret
          exact ⟨rfl, below_then hball hb6⟩
      · have ha : a ≤ s.length := by
          obtain ⟨p, q, st, rfl, rfl, -⟩ := tokens_err hT
          simp
        have HT := Lib.hid hT; clear hT
        go_enter Tryd.func8, Tryd.ntmps8
        go_wp2_with fail
        go_at_call 12; refine (awake_any _).mono ?_; rintro e w1 ⟨rfl, hb1⟩
        go_wp2_with fail
        go_at_call 21; refine (tokens_any s _ (by omega)).mono ?_; rw [HT.out]; rintro e w2 ⟨A2, c2, rfl, -, -, hb2⟩
        go_wp2_with fail
        go_ret
        exact ⟨rfl, below_then hb1 hb2⟩
  · go_enter Tryd.func8, Tryd.ntmps8
    go_wp2_with (go_at_call 12; refine (awake_any _).mono ?_; rintro e w1 ⟨rfl, hb1⟩)
    go_ret
    exact ⟨rfl, hb1⟩
end Go.Proofs.YtbbgieopcmjoeaaDoor
