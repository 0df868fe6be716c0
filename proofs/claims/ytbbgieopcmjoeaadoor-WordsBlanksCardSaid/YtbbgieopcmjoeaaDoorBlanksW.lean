/- WordsBlanks: the law's walk. -/
import Derived.Test.YtbbgieopcmjoeaaDoorBlanksP
import Derived.Test.YtbbgieopcmjoeaaDoorBackW
namespace Go.Proofs.YtbbgieopcmjoeaaDoor
open Go.RowKit
theorem repeat_bl : ∀ n : Nat, Lib.repeatL [32] n = bl n
  | 0 => rfl
  | n + 1 => by
    simp only [Lib.repeatL, repeat_bl n, bl, List.replicate_succ, List.singleton_append]
theorem str_app3 (a b c : List UInt8) : Value.string (⟨a.toArray⟩ ++ (⟨b.toArray⟩ ++ ⟨c.toArray⟩)) = str (a ++ (b ++ c)) := by simp [ByteArray.mk_append_mk]
theorem repeat_any (n : Nat) (w : World) (hn : n ≤ 1000) :
    Calls Tryd.prog 25 #[str [32], .int .i64 n] w fun e w' => e = .returned (str (bl n)) ∧ Below w.heap.size w w' := by
  refine (Tryd.strings_Repeat ⟨[32].toArray⟩ n w (by omega) (by show 1 * n ≤ _; omega)).mono ?_
  rintro e w' ⟨rfl, hb⟩
  exact ⟨ret_string (repeat_bl n), hb⟩
abbrev SB (w W : World) (b o : Nat) (u : Value) : Prop := W.cell? ⟨b, o, none⟩ = some u ∧ b < W.heap.size ∧ Below w.heap.size w W
theorem SB_drew {w W : World} {b o : Nat} {u : Value} (h : SB w W b o u) : SB w W.drew b o u := ⟨h.1, h.2.1, h.2.2.drew⟩
theorem SB_keep {w W W' : World} {b o : Nat} {u : Value} (h : SB w W b o u) (hb : Below W.heap.size W W') : SB w W' b o u :=
  ⟨(hb.cell (p := ⟨b, o, none⟩) h.2.1).trans h.1, Nat.lt_of_lt_of_le h.2.1 hb.size, below_then h.2.2 hb⟩
theorem txt_succ (l : List (List UInt8)) (bs : List UInt8) (k : Nat) {n : Nat} {x : List UInt8} (hn : blN l bs k = n) (hx : tokAt l k = x) : txtB l bs (k + 1) = txtB l bs k ++ (bl n ++ x) := by
  subst hn hx; rfl
set_option maxRecDepth 100000 in
theorem tokens_long (s : List UInt8) (w : World) (h : 1000 < s.length) (hm : s.length ≤ maxLen) : Calls Tryd.prog 21 #[str s] w fun e w' => e = .returned (.tuple #[.slice none 0 0, .int .i64 0, .int .i64 3]) ∧ Below w.heap.size w w' := by
  unfold maxLen at hm
  have hd : decide (1000 < (s.length : Int)) = true := by simp; omega
  go_enter Tryd.func21, Tryd.ntmps21
  go_wp2_with fail
  go_returns
  exact ⟨rfl, (((Below.refl _ _).alloc (Nat.le_refl _) _).alloc (by simp) _).alloc (by simp; omega) _⟩
-- GEN
set_option maxRecDepth 100000 in
set_option maxHeartbeats 6400000 in
theorem blanks_main (s bs : List UInt8) (A : Option Addr) (c : Nat) (w : World) (l : List (List UInt8)) (hT : tokensR s = (l, 0, 0)) (hs : s.length ≤ 150) (hbs : bs.length ≤ 100) (_hc : bs.length ≤ c) (_hcm : c ≤ maxLen) (hr : Reads w w.heap.size 1 A bs.length (bs.map byteV)) :
    Calls Tryd.prog 9 #[str s, .slice A bs.length c] w fun e w' => e = .returned (.bool true) ∧ Below w.heap.size w w' := by
  unfold maxLen at _hcm
  obtain ⟨-, hg⟩ := tokens_good hT
  obtain ⟨ht1, ht2⟩ := tokens_tot hT
  have hlen : (txtB l bs l.length ++ bl bs.length).length ≤ 1000 := by
    have := txt_len l bs l.length (Nat.le_refl _)
    rw [List.take_length] at this
    simp only [bl, List.length_append, List.length_replicate]; omega
  have HE := Lib.hid (blank_tokens hg bs bs.length hlen)
  have HL := Lib.hid hlen; clear hlen
  have hll : l.length ≤ 150 := by omega
  have HT := Lib.hid hT; clear hT hg
  have HR := Lib.hid hr; clear hr
  have HT1 := Lib.hid ht1; clear ht1 ht2
  go_enter Tryd.func9, Tryd.ntmps9
  go_wp2_with fail
  go_at_call 12; refine (awake_any _).mono ?_; rintro e w1 ⟨rfl, hb1⟩
  go_wp2_with fail
  go_at_call 21; refine (tokens_any s _ (by omega)).mono ?_; rw [HT.out]; rintro e w2 ⟨A2, c2, rfl, hc2, hr2, hb2⟩
  have HR2 := Lib.hid hr2; clear hr2
  have HRB := Lib.hid ((HR.out).later (below_then hb1 hb2)); clear HR
  have hb0 := below_then hb1 hb2
  clear hb1 hb2
  go_wp2_with fail
  go_loopw [8, 9] (fun tv i wr => ∃ k : Nat, k ≤ l.length ∧ i = .int .i64 k ∧ tv = str (txtB l bs k) ∧ Below w2.heap.size w2 wr) (fun _ i _ => l.length - (intOf i).toNat)
  case atStart => exact ⟨0, Nat.zero_le _, rfl, rfl, Below.refl _ _⟩
  case round =>
    obtain ⟨k, hk, rfl, rfl, hb⟩ := hrel
    by_cases hlt : k < l.length
    · obtain ⟨b2, o2, hA2, hB2, hce⟩ := ((HR2.out).below hb).at1 (k := k) (u := str l[k]) hlt (by simp [hlt])
      cases hA2
      have HX : Hid (tokAt l k = l[k]) := tok_at hlt
      have hxl : (l[k]).length ≤ 150 := Nat.le_trans (tot_mem (List.getElem_mem hlt)) (Nat.le_trans (HT1.out) hs)
      have htl : (txtB l bs k).length ≤ 600 := by
        have h1 := txt_len l bs k hk
        have h2 := tot_take l k
        have h3 := HT1.out
        omega
      have hsb : SB w2 wr b2 (o2 + k) (str l[k]) := ⟨hce, Nat.lt_of_lt_of_le hB2 hb.size, hb⟩
      generalize l[k] = x at hce HX hsb hxl
      rcases Nat.lt_or_ge k bs.length with hkb | hkb
      · skip
        obtain ⟨b3, o3, hA3, hB3, hcb⟩ := ((HRB.out).below hb).at1 (k := k) (u := byteV bs[k]) hkb (by simp [hkb])
        cases hA3
        have HY := Lib.hid (show bs.getD k 0 = bs[k] by simp [hkb])
        generalize bs[k] = y at hcb HY
        obtain ⟨yn, hyn⟩ : ∃ yn, y.toNat = yn := ⟨_, rfl⟩
        obtain ⟨n, hn⟩ : ∃ n, y.toNat % 4 = n := ⟨_, rfl⟩
        have hy : yn < 256 := by have := y.toNat_lt; omega
        have HB : Hid (blN l bs k = blC l k n) := blN_eq (by rw [if_pos hkb, (HY).out, hn])
        have hn4 : n ≤ 3 := by omega
        simp only [byteV, hyn] at hcb
        have hmod : (yn : Int) % 4 = (n : Int) := by omega
        clear hn HY hyn
        rcases Nat.eq_zero_or_pos k with hk0 | hk0
        · subst hk0
          simp only [Nat.add_zero] at hce hsb hcb
          have HN := Lib.hid (show blN l bs 0 = n by rw [HB.out]; unfold blC; rw [if_neg (by omega)])
          go_wp2_with fail
          refine wp_region_held_drew (S := fun W => SB w2 W b2 o2 (str x)) (by kernel_rfl) (by exact SB_drew hsb) (fun hHeld => ?_)
          refine wpAnyH_take (i := 0) (oi := { dst := some 78, op := Op.move (Operand.tmp 8), type := 9, pos := "outright.go:81", after := #[], guard := none }) (v := ?v1_0) (by kernel_rfl) (by kernel_rfl) (by kernel_rfl) (by kernel_rfl) (fun _ _ _ h => h) (Or.inl ⟨by kernel_rfl, ?h1_0⟩) hHeld ?r1_0
          case h1_0 => (intro w hSw; (try dsimp only at hSw); go_simp; try with_reducible rfl)
          try simp only [Act.put, List.setIfInBounds_toArray, List.set_cons_zero, List.set_cons_succ]
          refine wpAnyH_take (i := 1) (oi := { dst := some 79, op := Op.move (Operand.tmp 10), type := 3, pos := "outright.go:81", after := #[], guard := none }) (v := ?v1_1) (by kernel_rfl) (by kernel_rfl) (by kernel_rfl) (by kernel_rfl) (fun _ _ _ h => h) (Or.inl ⟨by kernel_rfl, ?h1_1⟩) hHeld ?r1_1
          case h1_1 => (intro w hSw; (try dsimp only at hSw); go_simp; try with_reducible rfl)
          try simp only [Act.put, List.setIfInBounds_toArray, List.set_cons_zero, List.set_cons_succ]
          refine wpAnyH_take (i := 3) (oi := { dst := some 81, op := Op.move (Operand.tmp 5), type := 24, pos := "outright.go:81", after := #[], guard := none }) (v := ?v1_3) (by kernel_rfl) (by kernel_rfl) (by kernel_rfl) (by kernel_rfl) (fun _ _ _ h => h) (Or.inl ⟨by kernel_rfl, ?h1_3⟩) hHeld ?r1_3
          case h1_3 => (intro w hSw; (try dsimp only at hSw); go_simp; try with_reducible rfl)
          try simp only [Act.put, List.setIfInBounds_toArray, List.set_cons_zero, List.set_cons_succ]
          refine wpAnyH_take (i := 4) (oi := { dst := some 82, op := Op.move (Operand.tmp 9), type := 3, pos := "outright.go:81", after := #[], guard := none }) (v := ?v1_4) (by kernel_rfl) (by kernel_rfl) (by kernel_rfl) (by kernel_rfl) (fun _ _ _ h => h) (Or.inl ⟨by kernel_rfl, ?h1_4⟩) hHeld ?r1_4
          case h1_4 => (intro w hSw; (try dsimp only at hSw); go_simp; try with_reducible rfl)
          try simp only [Act.put, List.setIfInBounds_toArray, List.set_cons_zero, List.set_cons_succ]
          refine wpAnyH_take (i := 5) (oi := { dst := some 83, op := Op.indexAddr 24 (Operand.tmp 81) (Operand.tmp 82), type := 0, pos := "outright.go:81", after := #[{ on := 3, ground := Ground.data }, { on := 4, ground := Ground.data }], guard := none }) (v := ?v1_5) (by kernel_rfl) (by kernel_rfl) (by kernel_rfl) (by kernel_rfl) (fun _ _ _ h => h) (Or.inl ⟨by kernel_rfl, ?h1_5⟩) hHeld ?r1_5
          case h1_5 => (intro w hSw; (try dsimp only at hSw); go_simp; try with_reducible rfl)
          try simp only [Act.put, List.setIfInBounds_toArray, List.set_cons_zero, List.set_cons_succ]
          refine wpAnyH_take (i := 6) (oi := { dst := some 84, op := Op.load 9 (Operand.tmp 83), type := 9, pos := "outright.go:81", after := #[{ on := 5, ground := Ground.data }], guard := none }) (v := ?v1_6) (by kernel_rfl) (by kernel_rfl) (by kernel_rfl) (by kernel_rfl) (fun _ _ _ h => h) (Or.inl ⟨by kernel_rfl, ?h1_6⟩) hHeld ?r1_6
          case h1_6 => (intro w hSw; (try dsimp only at hSw); go_simp; try with_reducible rfl)
          try simp only [Act.put, List.setIfInBounds_toArray, List.set_cons_zero, List.set_cons_succ]
          refine wpAnyH_ready (rs := [2]) (by kernel_rfl) (by simp) ?_
          refine AllReadyH.cons (i := 2) (o := { dst := some 80, op := Op.call { callee := Callee.value (Operand.func 25), args := #[Operand.const (Value.string { data := #[32] }), Operand.tmp 79], argTypes := #[9, 3] }, type := 9, pos := "outright.go:81", after := #[{ on := 1, ground := Ground.data }], guard := none }) rfl (fun K hK => ?_) AllReadyH.nil
          go_simp
          refine (repeat_any n _ (by omega)).mono ?_
          rintro e w3 ⟨rfl, hb3⟩
          go_wp2_with fail
          refine hK.out _ _ (by exact SB_keep (by assumption) (by assumption)) (fun hHeld => ?_)
          clear hK K
          try simp only [Act.put, List.setIfInBounds_toArray, List.set_cons_zero, List.set_cons_succ]
          refine wpAnyH_take (i := 7) (oi := { dst := some 85, op := Op.binOp BinOp.add 9 (Operand.tmp 80) (Operand.tmp 84) 9, type := 9, pos := "outright.go:81", after := #[{ on := 2, ground := Ground.data }, { on := 6, ground := Ground.data }], guard := none }) (v := ?v1_7) (by kernel_rfl) (by kernel_rfl) (by kernel_rfl) (by kernel_rfl) (fun _ _ _ h => h) (Or.inl ⟨by kernel_rfl, ?h1_7⟩) hHeld ?r1_7
          case h1_7 => (intro w hSw; (try dsimp only at hSw); go_simp; rw [if_neg (by (try simp [bl]); omega)]; try with_reducible rfl)
          try simp only [Act.put, List.setIfInBounds_toArray, List.set_cons_zero, List.set_cons_succ]
          refine wpAnyH_take (i := 8) (oi := { dst := some 86, op := Op.binOp BinOp.add 9 (Operand.tmp 78) (Operand.tmp 85) 9, type := 9, pos := "outright.go:81", after := #[{ on := 0, ground := Ground.data }, { on := 7, ground := Ground.data }], guard := none }) (v := ?v1_8) (by kernel_rfl) (by kernel_rfl) (by kernel_rfl) (by kernel_rfl) (fun _ _ _ h => h) (Or.inl ⟨by kernel_rfl, ?h1_8⟩) hHeld ?r1_8
          case h1_8 => (intro w hSw; (try dsimp only at hSw); go_simp; rw [if_neg (by (try simp [bl]); omega)]; try with_reducible rfl)
          try simp only [Act.put, List.setIfInBounds_toArray, List.set_cons_zero, List.set_cons_succ]
          refine wpAnyH_take (i := 9) (oi := { dst := some 8, op := Op.assign (Operand.tmp 86), type := 9, pos := "outright.go:81", after := #[{ on := 8, ground := Ground.data }, { on := 2, ground := Ground.chain }, { on := 0, ground := Ground.phase }, { on := 1, ground := Ground.phase }, { on := 2, ground := Ground.phase }, { on := 3, ground := Ground.phase }, { on := 4, ground := Ground.phase }, { on := 5, ground := Ground.phase }, { on := 6, ground := Ground.phase }, { on := 7, ground := Ground.phase }, { on := 8, ground := Ground.phase }], guard := none }) (v := ?v1_9) (by kernel_rfl) (by kernel_rfl) (by kernel_rfl) (by kernel_rfl) (fun _ _ _ h => h) (Or.inl ⟨by kernel_rfl, ?h1_9⟩) hHeld ?r1_9
          case h1_9 => (intro w hSw; (try dsimp only at hSw); go_simp; try with_reducible rfl)
          try simp only [Act.put, List.setIfInBounds_toArray, List.set_cons_zero, List.set_cons_succ]
          refine wpAnyH_done (by kernel_rfl) ?_ _
          all_goals go_wp2_with fail
          go_roundw
          case rel => exact ⟨0 + 1, by omega, by go_num, by rw [txt_succ l bs 0 HN.out HX.out]; exact str_app3 _ _ _, hHeld.2.2⟩
          case measure => simp [intOf]; omega
        · obtain ⟨j, rfl⟩ : ∃ j, k = j + 1 := ⟨k - 1, by omega⟩
          have hj1 : (0 : Int) ≤ (j : Int) + 1 := by omega
          rcases Nat.eq_zero_or_pos n with hn0 | hn0
          · subst hn0
            obtain ⟨b4, o4, hA4, hB4, hce4⟩ := ((HR2.out).below hb).at1 (k := j) (u := str l[j]) (by omega) (by rw [List.getElem?_map, List.getElem?_eq_getElem (by omega)]; rfl)
            cases hA4
            have HZ : Hid (tokAt l j = l[j]) := tok_at (by omega)
            generalize l[j] = z at hce4 HZ
            cases hx1 : (x == [44])
            · have hx1n : x ≠ [44] := by simpa using hx1
              cases hx2 : (x == [46])
              · have hx2n : x ≠ [46] := by simpa using hx2
                cases hz : (z == [44])
                · have hzn : z ≠ [44] := by simpa using hz
                  have HNN := Lib.hid (show blC l (j + 1) 0 = 1 by unfold blC; rw [HX.out, Nat.add_sub_cancel, HZ.out, if_pos ⟨by omega, rfl, hx1n, hx2n, hzn⟩])
                  clear hx1n hx2n hzn
                  have HN := Lib.hid (show blN l bs (j + 1) = 1 by rw [HB.out, HNN.out])
                  go_wp2_with fail
                  refine wp_region_held_drew (S := fun W => SB w2 W b2 (o2 + (j + 1)) (str x)) (by kernel_rfl) (by exact SB_drew hsb) (fun hHeld => ?_)
                  refine wpAnyH_take (i := 0) (oi := { dst := some 78, op := Op.move (Operand.tmp 8), type := 9, pos := "outright.go:81", after := #[], guard := none }) (v := ?v2_0) (by kernel_rfl) (by kernel_rfl) (by kernel_rfl) (by kernel_rfl) (fun _ _ _ h => h) (Or.inl ⟨by kernel_rfl, ?h2_0⟩) hHeld ?r2_0
                  case h2_0 => (intro w hSw; (try dsimp only at hSw); go_simp; try with_reducible rfl)
                  try simp only [Act.put, List.setIfInBounds_toArray, List.set_cons_zero, List.set_cons_succ]
                  refine wpAnyH_take (i := 1) (oi := { dst := some 79, op := Op.move (Operand.tmp 10), type := 3, pos := "outright.go:81", after := #[], guard := none }) (v := ?v2_1) (by kernel_rfl) (by kernel_rfl) (by kernel_rfl) (by kernel_rfl) (fun _ _ _ h => h) (Or.inl ⟨by kernel_rfl, ?h2_1⟩) hHeld ?r2_1
                  case h2_1 => (intro w hSw; (try dsimp only at hSw); go_simp; try with_reducible rfl)
                  try simp only [Act.put, List.setIfInBounds_toArray, List.set_cons_zero, List.set_cons_succ]
                  refine wpAnyH_take (i := 3) (oi := { dst := some 81, op := Op.move (Operand.tmp 5), type := 24, pos := "outright.go:81", after := #[], guard := none }) (v := ?v2_3) (by kernel_rfl) (by kernel_rfl) (by kernel_rfl) (by kernel_rfl) (fun _ _ _ h => h) (Or.inl ⟨by kernel_rfl, ?h2_3⟩) hHeld ?r2_3
                  case h2_3 => (intro w hSw; (try dsimp only at hSw); go_simp; try with_reducible rfl)
                  try simp only [Act.put, List.setIfInBounds_toArray, List.set_cons_zero, List.set_cons_succ]
                  refine wpAnyH_take (i := 4) (oi := { dst := some 82, op := Op.move (Operand.tmp 9), type := 3, pos := "outright.go:81", after := #[], guard := none }) (v := ?v2_4) (by kernel_rfl) (by kernel_rfl) (by kernel_rfl) (by kernel_rfl) (fun _ _ _ h => h) (Or.inl ⟨by kernel_rfl, ?h2_4⟩) hHeld ?r2_4
                  case h2_4 => (intro w hSw; (try dsimp only at hSw); go_simp; try with_reducible rfl)
                  try simp only [Act.put, List.setIfInBounds_toArray, List.set_cons_zero, List.set_cons_succ]
                  refine wpAnyH_take (i := 5) (oi := { dst := some 83, op := Op.indexAddr 24 (Operand.tmp 81) (Operand.tmp 82), type := 0, pos := "outright.go:81", after := #[{ on := 3, ground := Ground.data }, { on := 4, ground := Ground.data }], guard := none }) (v := ?v2_5) (by kernel_rfl) (by kernel_rfl) (by kernel_rfl) (by kernel_rfl) (fun _ _ _ h => h) (Or.inl ⟨by kernel_rfl, ?h2_5⟩) hHeld ?r2_5
                  case h2_5 => (intro w hSw; (try dsimp only at hSw); go_simp; try with_reducible rfl)
                  try simp only [Act.put, List.setIfInBounds_toArray, List.set_cons_zero, List.set_cons_succ]
                  refine wpAnyH_take (i := 6) (oi := { dst := some 84, op := Op.load 9 (Operand.tmp 83), type := 9, pos := "outright.go:81", after := #[{ on := 5, ground := Ground.data }], guard := none }) (v := ?v2_6) (by kernel_rfl) (by kernel_rfl) (by kernel_rfl) (by kernel_rfl) (fun _ _ _ h => h) (Or.inl ⟨by kernel_rfl, ?h2_6⟩) hHeld ?r2_6
                  case h2_6 => (intro w hSw; (try dsimp only at hSw); go_simp; try with_reducible rfl)
                  try simp only [Act.put, List.setIfInBounds_toArray, List.set_cons_zero, List.set_cons_succ]
                  refine wpAnyH_ready (rs := [2]) (by kernel_rfl) (by simp) ?_
                  refine AllReadyH.cons (i := 2) (o := { dst := some 80, op := Op.call { callee := Callee.value (Operand.func 25), args := #[Operand.const (Value.string { data := #[32] }), Operand.tmp 79], argTypes := #[9, 3] }, type := 9, pos := "outright.go:81", after := #[{ on := 1, ground := Ground.data }], guard := none }) rfl (fun K hK => ?_) AllReadyH.nil
                  go_simp
                  refine (repeat_any 1 _ (by omega)).mono ?_
                  rintro e w3 ⟨rfl, hb3⟩
                  go_wp2_with fail
                  refine hK.out _ _ (by exact SB_keep (by assumption) (by assumption)) (fun hHeld => ?_)
                  clear hK K
                  try simp only [Act.put, List.setIfInBounds_toArray, List.set_cons_zero, List.set_cons_succ]
                  refine wpAnyH_take (i := 7) (oi := { dst := some 85, op := Op.binOp BinOp.add 9 (Operand.tmp 80) (Operand.tmp 84) 9, type := 9, pos := "outright.go:81", after := #[{ on := 2, ground := Ground.data }, { on := 6, ground := Ground.data }], guard := none }) (v := ?v2_7) (by kernel_rfl) (by kernel_rfl) (by kernel_rfl) (by kernel_rfl) (fun _ _ _ h => h) (Or.inl ⟨by kernel_rfl, ?h2_7⟩) hHeld ?r2_7
                  case h2_7 => (intro w hSw; (try dsimp only at hSw); go_simp; rw [if_neg (by (try simp [bl]); omega)]; try with_reducible rfl)
                  try simp only [Act.put, List.setIfInBounds_toArray, List.set_cons_zero, List.set_cons_succ]
                  refine wpAnyH_take (i := 8) (oi := { dst := some 86, op := Op.binOp BinOp.add 9 (Operand.tmp 78) (Operand.tmp 85) 9, type := 9, pos := "outright.go:81", after := #[{ on := 0, ground := Ground.data }, { on := 7, ground := Ground.data }], guard := none }) (v := ?v2_8) (by kernel_rfl) (by kernel_rfl) (by kernel_rfl) (by kernel_rfl) (fun _ _ _ h => h) (Or.inl ⟨by kernel_rfl, ?h2_8⟩) hHeld ?r2_8
                  case h2_8 => (intro w hSw; (try dsimp only at hSw); go_simp; rw [if_neg (by (try simp [bl]); omega)]; try with_reducible rfl)
                  try simp only [Act.put, List.setIfInBounds_toArray, List.set_cons_zero, List.set_cons_succ]
                  refine wpAnyH_take (i := 9) (oi := { dst := some 8, op := Op.assign (Operand.tmp 86), type := 9, pos := "outright.go:81", after := #[{ on := 8, ground := Ground.data }, { on := 2, ground := Ground.chain }, { on := 0, ground := Ground.phase }, { on := 1, ground := Ground.phase }, { on := 2, ground := Ground.phase }, { on := 3, ground := Ground.phase }, { on := 4, ground := Ground.phase }, { on := 5, ground := Ground.phase }, { on := 6, ground := Ground.phase }, { on := 7, ground := Ground.phase }, { on := 8, ground := Ground.phase }], guard := none }) (v := ?v2_9) (by kernel_rfl) (by kernel_rfl) (by kernel_rfl) (by kernel_rfl) (fun _ _ _ h => h) (Or.inl ⟨by kernel_rfl, ?h2_9⟩) hHeld ?r2_9
                  case h2_9 => (intro w hSw; (try dsimp only at hSw); go_simp; try with_reducible rfl)
                  try simp only [Act.put, List.setIfInBounds_toArray, List.set_cons_zero, List.set_cons_succ]
                  refine wpAnyH_done (by kernel_rfl) ?_ _
                  all_goals go_wp2_with fail
                  go_roundw
                  case rel => exact ⟨(j + 1) + 1, by omega, by go_num, by rw [txt_succ l bs (j + 1) HN.out HX.out]; exact str_app3 _ _ _, hHeld.2.2⟩
                  case measure => simp [intOf]; omega
                · have HNN := Lib.hid (show blC l (j + 1) 0 = 0 by unfold blC; rw [Nat.add_sub_cancel, HZ.out, if_neg (fun h => h.2.2.2.2 (by simpa using hz))])
                  clear hx1n hx2n
                  have HN := Lib.hid (show blN l bs (j + 1) = 0 by rw [HB.out, HNN.out])
                  go_wp2_with fail
                  refine wp_region_held_drew (S := fun W => SB w2 W b2 (o2 + (j + 1)) (str x)) (by kernel_rfl) (by exact SB_drew hsb) (fun hHeld => ?_)
                  refine wpAnyH_take (i := 0) (oi := { dst := some 78, op := Op.move (Operand.tmp 8), type := 9, pos := "outright.go:81", after := #[], guard := none }) (v := ?v3_0) (by kernel_rfl) (by kernel_rfl) (by kernel_rfl) (by kernel_rfl) (fun _ _ _ h => h) (Or.inl ⟨by kernel_rfl, ?h3_0⟩) hHeld ?r3_0
                  case h3_0 => (intro w hSw; (try dsimp only at hSw); go_simp; try with_reducible rfl)
                  try simp only [Act.put, List.setIfInBounds_toArray, List.set_cons_zero, List.set_cons_succ]
                  refine wpAnyH_take (i := 1) (oi := { dst := some 79, op := Op.move (Operand.tmp 10), type := 3, pos := "outright.go:81", after := #[], guard := none }) (v := ?v3_1) (by kernel_rfl) (by kernel_rfl) (by kernel_rfl) (by kernel_rfl) (fun _ _ _ h => h) (Or.inl ⟨by kernel_rfl, ?h3_1⟩) hHeld ?r3_1
                  case h3_1 => (intro w hSw; (try dsimp only at hSw); go_simp; try with_reducible rfl)
                  try simp only [Act.put, List.setIfInBounds_toArray, List.set_cons_zero, List.set_cons_succ]
                  refine wpAnyH_take (i := 3) (oi := { dst := some 81, op := Op.move (Operand.tmp 5), type := 24, pos := "outright.go:81", after := #[], guard := none }) (v := ?v3_3) (by kernel_rfl) (by kernel_rfl) (by kernel_rfl) (by kernel_rfl) (fun _ _ _ h => h) (Or.inl ⟨by kernel_rfl, ?h3_3⟩) hHeld ?r3_3
                  case h3_3 => (intro w hSw; (try dsimp only at hSw); go_simp; try with_reducible rfl)
                  try simp only [Act.put, List.setIfInBounds_toArray, List.set_cons_zero, List.set_cons_succ]
                  refine wpAnyH_take (i := 4) (oi := { dst := some 82, op := Op.move (Operand.tmp 9), type := 3, pos := "outright.go:81", after := #[], guard := none }) (v := ?v3_4) (by kernel_rfl) (by kernel_rfl) (by kernel_rfl) (by kernel_rfl) (fun _ _ _ h => h) (Or.inl ⟨by kernel_rfl, ?h3_4⟩) hHeld ?r3_4
                  case h3_4 => (intro w hSw; (try dsimp only at hSw); go_simp; try with_reducible rfl)
                  try simp only [Act.put, List.setIfInBounds_toArray, List.set_cons_zero, List.set_cons_succ]
                  refine wpAnyH_take (i := 5) (oi := { dst := some 83, op := Op.indexAddr 24 (Operand.tmp 81) (Operand.tmp 82), type := 0, pos := "outright.go:81", after := #[{ on := 3, ground := Ground.data }, { on := 4, ground := Ground.data }], guard := none }) (v := ?v3_5) (by kernel_rfl) (by kernel_rfl) (by kernel_rfl) (by kernel_rfl) (fun _ _ _ h => h) (Or.inl ⟨by kernel_rfl, ?h3_5⟩) hHeld ?r3_5
                  case h3_5 => (intro w hSw; (try dsimp only at hSw); go_simp; try with_reducible rfl)
                  try simp only [Act.put, List.setIfInBounds_toArray, List.set_cons_zero, List.set_cons_succ]
                  refine wpAnyH_take (i := 6) (oi := { dst := some 84, op := Op.load 9 (Operand.tmp 83), type := 9, pos := "outright.go:81", after := #[{ on := 5, ground := Ground.data }], guard := none }) (v := ?v3_6) (by kernel_rfl) (by kernel_rfl) (by kernel_rfl) (by kernel_rfl) (fun _ _ _ h => h) (Or.inl ⟨by kernel_rfl, ?h3_6⟩) hHeld ?r3_6
                  case h3_6 => (intro w hSw; (try dsimp only at hSw); go_simp; try with_reducible rfl)
                  try simp only [Act.put, List.setIfInBounds_toArray, List.set_cons_zero, List.set_cons_succ]
                  refine wpAnyH_ready (rs := [2]) (by kernel_rfl) (by simp) ?_
                  refine AllReadyH.cons (i := 2) (o := { dst := some 80, op := Op.call { callee := Callee.value (Operand.func 25), args := #[Operand.const (Value.string { data := #[32] }), Operand.tmp 79], argTypes := #[9, 3] }, type := 9, pos := "outright.go:81", after := #[{ on := 1, ground := Ground.data }], guard := none }) rfl (fun K hK => ?_) AllReadyH.nil
                  go_simp
                  refine (repeat_any 0 _ (by omega)).mono ?_
                  rintro e w3 ⟨rfl, hb3⟩
                  go_wp2_with fail
                  refine hK.out _ _ (by exact SB_keep (by assumption) (by assumption)) (fun hHeld => ?_)
                  clear hK K
                  try simp only [Act.put, List.setIfInBounds_toArray, List.set_cons_zero, List.set_cons_succ]
                  refine wpAnyH_take (i := 7) (oi := { dst := some 85, op := Op.binOp BinOp.add 9 (Operand.tmp 80) (Operand.tmp 84) 9, type := 9, pos := "outright.go:81", after := #[{ on := 2, ground := Ground.data }, { on := 6, ground := Ground.data }], guard := none }) (v := ?v3_7) (by kernel_rfl) (by kernel_rfl) (by kernel_rfl) (by kernel_rfl) (fun _ _ _ h => h) (Or.inl ⟨by kernel_rfl, ?h3_7⟩) hHeld ?r3_7
                  case h3_7 => (intro w hSw; (try dsimp only at hSw); go_simp; rw [if_neg (by (try simp [bl]); omega)]; try with_reducible rfl)
                  try simp only [Act.put, List.setIfInBounds_toArray, List.set_cons_zero, List.set_cons_succ]
                  refine wpAnyH_take (i := 8) (oi := { dst := some 86, op := Op.binOp BinOp.add 9 (Operand.tmp 78) (Operand.tmp 85) 9, type := 9, pos := "outright.go:81", after := #[{ on := 0, ground := Ground.data }, { on := 7, ground := Ground.data }], guard := none }) (v := ?v3_8) (by kernel_rfl) (by kernel_rfl) (by kernel_rfl) (by kernel_rfl) (fun _ _ _ h => h) (Or.inl ⟨by kernel_rfl, ?h3_8⟩) hHeld ?r3_8
                  case h3_8 => (intro w hSw; (try dsimp only at hSw); go_simp; rw [if_neg (by (try simp [bl]); omega)]; try with_reducible rfl)
                  try simp only [Act.put, List.setIfInBounds_toArray, List.set_cons_zero, List.set_cons_succ]
                  refine wpAnyH_take (i := 9) (oi := { dst := some 8, op := Op.assign (Operand.tmp 86), type := 9, pos := "outright.go:81", after := #[{ on := 8, ground := Ground.data }, { on := 2, ground := Ground.chain }, { on := 0, ground := Ground.phase }, { on := 1, ground := Ground.phase }, { on := 2, ground := Ground.phase }, { on := 3, ground := Ground.phase }, { on := 4, ground := Ground.phase }, { on := 5, ground := Ground.phase }, { on := 6, ground := Ground.phase }, { on := 7, ground := Ground.phase }, { on := 8, ground := Ground.phase }], guard := none }) (v := ?v3_9) (by kernel_rfl) (by kernel_rfl) (by kernel_rfl) (by kernel_rfl) (fun _ _ _ h => h) (Or.inl ⟨by kernel_rfl, ?h3_9⟩) hHeld ?r3_9
                  case h3_9 => (intro w hSw; (try dsimp only at hSw); go_simp; try with_reducible rfl)
                  try simp only [Act.put, List.setIfInBounds_toArray, List.set_cons_zero, List.set_cons_succ]
                  refine wpAnyH_done (by kernel_rfl) ?_ _
                  all_goals go_wp2_with fail
                  go_roundw
                  case rel => exact ⟨(j + 1) + 1, by omega, by go_num, by rw [txt_succ l bs (j + 1) HN.out HX.out]; exact str_app3 _ _ _, hHeld.2.2⟩
                  case measure => simp [intOf]; omega
              · have HNN := Lib.hid (show blC l (j + 1) 0 = 0 by unfold blC; rw [HX.out, if_neg (fun h => h.2.2.2.1 (by simpa using hx2))])
                clear hx1n
                have HN := Lib.hid (show blN l bs (j + 1) = 0 by rw [HB.out, HNN.out])
                go_wp2_with fail
                refine wp_region_held_drew (S := fun W => SB w2 W b2 (o2 + (j + 1)) (str x)) (by kernel_rfl) (by exact SB_drew hsb) (fun hHeld => ?_)
                refine wpAnyH_take (i := 0) (oi := { dst := some 78, op := Op.move (Operand.tmp 8), type := 9, pos := "outright.go:81", after := #[], guard := none }) (v := ?v4_0) (by kernel_rfl) (by kernel_rfl) (by kernel_rfl) (by kernel_rfl) (fun _ _ _ h => h) (Or.inl ⟨by kernel_rfl, ?h4_0⟩) hHeld ?r4_0
                case h4_0 => (intro w hSw; (try dsimp only at hSw); go_simp; try with_reducible rfl)
                try simp only [Act.put, List.setIfInBounds_toArray, List.set_cons_zero, List.set_cons_succ]
                refine wpAnyH_take (i := 1) (oi := { dst := some 79, op := Op.move (Operand.tmp 10), type := 3, pos := "outright.go:81", after := #[], guard := none }) (v := ?v4_1) (by kernel_rfl) (by kernel_rfl) (by kernel_rfl) (by kernel_rfl) (fun _ _ _ h => h) (Or.inl ⟨by kernel_rfl, ?h4_1⟩) hHeld ?r4_1
                case h4_1 => (intro w hSw; (try dsimp only at hSw); go_simp; try with_reducible rfl)
                try simp only [Act.put, List.setIfInBounds_toArray, List.set_cons_zero, List.set_cons_succ]
                refine wpAnyH_take (i := 3) (oi := { dst := some 81, op := Op.move (Operand.tmp 5), type := 24, pos := "outright.go:81", after := #[], guard := none }) (v := ?v4_3) (by kernel_rfl) (by kernel_rfl) (by kernel_rfl) (by kernel_rfl) (fun _ _ _ h => h) (Or.inl ⟨by kernel_rfl, ?h4_3⟩) hHeld ?r4_3
                case h4_3 => (intro w hSw; (try dsimp only at hSw); go_simp; try with_reducible rfl)
                try simp only [Act.put, List.setIfInBounds_toArray, List.set_cons_zero, List.set_cons_succ]
                refine wpAnyH_take (i := 4) (oi := { dst := some 82, op := Op.move (Operand.tmp 9), type := 3, pos := "outright.go:81", after := #[], guard := none }) (v := ?v4_4) (by kernel_rfl) (by kernel_rfl) (by kernel_rfl) (by kernel_rfl) (fun _ _ _ h => h) (Or.inl ⟨by kernel_rfl, ?h4_4⟩) hHeld ?r4_4
                case h4_4 => (intro w hSw; (try dsimp only at hSw); go_simp; try with_reducible rfl)
                try simp only [Act.put, List.setIfInBounds_toArray, List.set_cons_zero, List.set_cons_succ]
                refine wpAnyH_take (i := 5) (oi := { dst := some 83, op := Op.indexAddr 24 (Operand.tmp 81) (Operand.tmp 82), type := 0, pos := "outright.go:81", after := #[{ on := 3, ground := Ground.data }, { on := 4, ground := Ground.data }], guard := none }) (v := ?v4_5) (by kernel_rfl) (by kernel_rfl) (by kernel_rfl) (by kernel_rfl) (fun _ _ _ h => h) (Or.inl ⟨by kernel_rfl, ?h4_5⟩) hHeld ?r4_5
                case h4_5 => (intro w hSw; (try dsimp only at hSw); go_simp; try with_reducible rfl)
                try simp only [Act.put, List.setIfInBounds_toArray, List.set_cons_zero, List.set_cons_succ]
                refine wpAnyH_take (i := 6) (oi := { dst := some 84, op := Op.load 9 (Operand.tmp 83), type := 9, pos := "outright.go:81", after := #[{ on := 5, ground := Ground.data }], guard := none }) (v := ?v4_6) (by kernel_rfl) (by kernel_rfl) (by kernel_rfl) (by kernel_rfl) (fun _ _ _ h => h) (Or.inl ⟨by kernel_rfl, ?h4_6⟩) hHeld ?r4_6
                case h4_6 => (intro w hSw; (try dsimp only at hSw); go_simp; try with_reducible rfl)
                try simp only [Act.put, List.setIfInBounds_toArray, List.set_cons_zero, List.set_cons_succ]
                refine wpAnyH_ready (rs := [2]) (by kernel_rfl) (by simp) ?_
                refine AllReadyH.cons (i := 2) (o := { dst := some 80, op := Op.call { callee := Callee.value (Operand.func 25), args := #[Operand.const (Value.string { data := #[32] }), Operand.tmp 79], argTypes := #[9, 3] }, type := 9, pos := "outright.go:81", after := #[{ on := 1, ground := Ground.data }], guard := none }) rfl (fun K hK => ?_) AllReadyH.nil
                go_simp
                refine (repeat_any 0 _ (by omega)).mono ?_
                rintro e w3 ⟨rfl, hb3⟩
                go_wp2_with fail
                refine hK.out _ _ (by exact SB_keep (by assumption) (by assumption)) (fun hHeld => ?_)
                clear hK K
                try simp only [Act.put, List.setIfInBounds_toArray, List.set_cons_zero, List.set_cons_succ]
                refine wpAnyH_take (i := 7) (oi := { dst := some 85, op := Op.binOp BinOp.add 9 (Operand.tmp 80) (Operand.tmp 84) 9, type := 9, pos := "outright.go:81", after := #[{ on := 2, ground := Ground.data }, { on := 6, ground := Ground.data }], guard := none }) (v := ?v4_7) (by kernel_rfl) (by kernel_rfl) (by kernel_rfl) (by kernel_rfl) (fun _ _ _ h => h) (Or.inl ⟨by kernel_rfl, ?h4_7⟩) hHeld ?r4_7
                case h4_7 => (intro w hSw; (try dsimp only at hSw); go_simp; rw [if_neg (by (try simp [bl]); omega)]; try with_reducible rfl)
                try simp only [Act.put, List.setIfInBounds_toArray, List.set_cons_zero, List.set_cons_succ]
                refine wpAnyH_take (i := 8) (oi := { dst := some 86, op := Op.binOp BinOp.add 9 (Operand.tmp 78) (Operand.tmp 85) 9, type := 9, pos := "outright.go:81", after := #[{ on := 0, ground := Ground.data }, { on := 7, ground := Ground.data }], guard := none }) (v := ?v4_8) (by kernel_rfl) (by kernel_rfl) (by kernel_rfl) (by kernel_rfl) (fun _ _ _ h => h) (Or.inl ⟨by kernel_rfl, ?h4_8⟩) hHeld ?r4_8
                case h4_8 => (intro w hSw; (try dsimp only at hSw); go_simp; rw [if_neg (by (try simp [bl]); omega)]; try with_reducible rfl)
                try simp only [Act.put, List.setIfInBounds_toArray, List.set_cons_zero, List.set_cons_succ]
                refine wpAnyH_take (i := 9) (oi := { dst := some 8, op := Op.assign (Operand.tmp 86), type := 9, pos := "outright.go:81", after := #[{ on := 8, ground := Ground.data }, { on := 2, ground := Ground.chain }, { on := 0, ground := Ground.phase }, { on := 1, ground := Ground.phase }, { on := 2, ground := Ground.phase }, { on := 3, ground := Ground.phase }, { on := 4, ground := Ground.phase }, { on := 5, ground := Ground.phase }, { on := 6, ground := Ground.phase }, { on := 7, ground := Ground.phase }, { on := 8, ground := Ground.phase }], guard := none }) (v := ?v4_9) (by kernel_rfl) (by kernel_rfl) (by kernel_rfl) (by kernel_rfl) (fun _ _ _ h => h) (Or.inl ⟨by kernel_rfl, ?h4_9⟩) hHeld ?r4_9
                case h4_9 => (intro w hSw; (try dsimp only at hSw); go_simp; try with_reducible rfl)
                try simp only [Act.put, List.setIfInBounds_toArray, List.set_cons_zero, List.set_cons_succ]
                refine wpAnyH_done (by kernel_rfl) ?_ _
                all_goals go_wp2_with fail
                go_roundw
                case rel => exact ⟨(j + 1) + 1, by omega, by go_num, by rw [txt_succ l bs (j + 1) HN.out HX.out]; exact str_app3 _ _ _, hHeld.2.2⟩
                case measure => simp [intOf]; omega
            · have HNN := Lib.hid (show blC l (j + 1) 0 = 0 by unfold blC; rw [HX.out, if_neg (fun h => h.2.2.1 (by simpa using hx1))])
              have HN := Lib.hid (show blN l bs (j + 1) = 0 by rw [HB.out, HNN.out])
              go_wp2_with fail
              refine wp_region_held_drew (S := fun W => SB w2 W b2 (o2 + (j + 1)) (str x)) (by kernel_rfl) (by exact SB_drew hsb) (fun hHeld => ?_)
              refine wpAnyH_take (i := 0) (oi := { dst := some 78, op := Op.move (Operand.tmp 8), type := 9, pos := "outright.go:81", after := #[], guard := none }) (v := ?v5_0) (by kernel_rfl) (by kernel_rfl) (by kernel_rfl) (by kernel_rfl) (fun _ _ _ h => h) (Or.inl ⟨by kernel_rfl, ?h5_0⟩) hHeld ?r5_0
              case h5_0 => (intro w hSw; (try dsimp only at hSw); go_simp; try with_reducible rfl)
              try simp only [Act.put, List.setIfInBounds_toArray, List.set_cons_zero, List.set_cons_succ]
              refine wpAnyH_take (i := 1) (oi := { dst := some 79, op := Op.move (Operand.tmp 10), type := 3, pos := "outright.go:81", after := #[], guard := none }) (v := ?v5_1) (by kernel_rfl) (by kernel_rfl) (by kernel_rfl) (by kernel_rfl) (fun _ _ _ h => h) (Or.inl ⟨by kernel_rfl, ?h5_1⟩) hHeld ?r5_1
              case h5_1 => (intro w hSw; (try dsimp only at hSw); go_simp; try with_reducible rfl)
              try simp only [Act.put, List.setIfInBounds_toArray, List.set_cons_zero, List.set_cons_succ]
              refine wpAnyH_take (i := 3) (oi := { dst := some 81, op := Op.move (Operand.tmp 5), type := 24, pos := "outright.go:81", after := #[], guard := none }) (v := ?v5_3) (by kernel_rfl) (by kernel_rfl) (by kernel_rfl) (by kernel_rfl) (fun _ _ _ h => h) (Or.inl ⟨by kernel_rfl, ?h5_3⟩) hHeld ?r5_3
              case h5_3 => (intro w hSw; (try dsimp only at hSw); go_simp; try with_reducible rfl)
              try simp only [Act.put, List.setIfInBounds_toArray, List.set_cons_zero, List.set_cons_succ]
              refine wpAnyH_take (i := 4) (oi := { dst := some 82, op := Op.move (Operand.tmp 9), type := 3, pos := "outright.go:81", after := #[], guard := none }) (v := ?v5_4) (by kernel_rfl) (by kernel_rfl) (by kernel_rfl) (by kernel_rfl) (fun _ _ _ h => h) (Or.inl ⟨by kernel_rfl, ?h5_4⟩) hHeld ?r5_4
              case h5_4 => (intro w hSw; (try dsimp only at hSw); go_simp; try with_reducible rfl)
              try simp only [Act.put, List.setIfInBounds_toArray, List.set_cons_zero, List.set_cons_succ]
              refine wpAnyH_take (i := 5) (oi := { dst := some 83, op := Op.indexAddr 24 (Operand.tmp 81) (Operand.tmp 82), type := 0, pos := "outright.go:81", after := #[{ on := 3, ground := Ground.data }, { on := 4, ground := Ground.data }], guard := none }) (v := ?v5_5) (by kernel_rfl) (by kernel_rfl) (by kernel_rfl) (by kernel_rfl) (fun _ _ _ h => h) (Or.inl ⟨by kernel_rfl, ?h5_5⟩) hHeld ?r5_5
              case h5_5 => (intro w hSw; (try dsimp only at hSw); go_simp; try with_reducible rfl)
              try simp only [Act.put, List.setIfInBounds_toArray, List.set_cons_zero, List.set_cons_succ]
              refine wpAnyH_take (i := 6) (oi := { dst := some 84, op := Op.load 9 (Operand.tmp 83), type := 9, pos := "outright.go:81", after := #[{ on := 5, ground := Ground.data }], guard := none }) (v := ?v5_6) (by kernel_rfl) (by kernel_rfl) (by kernel_rfl) (by kernel_rfl) (fun _ _ _ h => h) (Or.inl ⟨by kernel_rfl, ?h5_6⟩) hHeld ?r5_6
              case h5_6 => (intro w hSw; (try dsimp only at hSw); go_simp; try with_reducible rfl)
              try simp only [Act.put, List.setIfInBounds_toArray, List.set_cons_zero, List.set_cons_succ]
              refine wpAnyH_ready (rs := [2]) (by kernel_rfl) (by simp) ?_
              refine AllReadyH.cons (i := 2) (o := { dst := some 80, op := Op.call { callee := Callee.value (Operand.func 25), args := #[Operand.const (Value.string { data := #[32] }), Operand.tmp 79], argTypes := #[9, 3] }, type := 9, pos := "outright.go:81", after := #[{ on := 1, ground := Ground.data }], guard := none }) rfl (fun K hK => ?_) AllReadyH.nil
              go_simp
              refine (repeat_any 0 _ (by omega)).mono ?_
              rintro e w3 ⟨rfl, hb3⟩
              go_wp2_with fail
              refine hK.out _ _ (by exact SB_keep (by assumption) (by assumption)) (fun hHeld => ?_)
              clear hK K
              try simp only [Act.put, List.setIfInBounds_toArray, List.set_cons_zero, List.set_cons_succ]
              refine wpAnyH_take (i := 7) (oi := { dst := some 85, op := Op.binOp BinOp.add 9 (Operand.tmp 80) (Operand.tmp 84) 9, type := 9, pos := "outright.go:81", after := #[{ on := 2, ground := Ground.data }, { on := 6, ground := Ground.data }], guard := none }) (v := ?v5_7) (by kernel_rfl) (by kernel_rfl) (by kernel_rfl) (by kernel_rfl) (fun _ _ _ h => h) (Or.inl ⟨by kernel_rfl, ?h5_7⟩) hHeld ?r5_7
              case h5_7 => (intro w hSw; (try dsimp only at hSw); go_simp; rw [if_neg (by (try simp [bl]); omega)]; try with_reducible rfl)
              try simp only [Act.put, List.setIfInBounds_toArray, List.set_cons_zero, List.set_cons_succ]
              refine wpAnyH_take (i := 8) (oi := { dst := some 86, op := Op.binOp BinOp.add 9 (Operand.tmp 78) (Operand.tmp 85) 9, type := 9, pos := "outright.go:81", after := #[{ on := 0, ground := Ground.data }, { on := 7, ground := Ground.data }], guard := none }) (v := ?v5_8) (by kernel_rfl) (by kernel_rfl) (by kernel_rfl) (by kernel_rfl) (fun _ _ _ h => h) (Or.inl ⟨by kernel_rfl, ?h5_8⟩) hHeld ?r5_8
              case h5_8 => (intro w hSw; (try dsimp only at hSw); go_simp; rw [if_neg (by (try simp [bl]); omega)]; try with_reducible rfl)
              try simp only [Act.put, List.setIfInBounds_toArray, List.set_cons_zero, List.set_cons_succ]
              refine wpAnyH_take (i := 9) (oi := { dst := some 8, op := Op.assign (Operand.tmp 86), type := 9, pos := "outright.go:81", after := #[{ on := 8, ground := Ground.data }, { on := 2, ground := Ground.chain }, { on := 0, ground := Ground.phase }, { on := 1, ground := Ground.phase }, { on := 2, ground := Ground.phase }, { on := 3, ground := Ground.phase }, { on := 4, ground := Ground.phase }, { on := 5, ground := Ground.phase }, { on := 6, ground := Ground.phase }, { on := 7, ground := Ground.phase }, { on := 8, ground := Ground.phase }], guard := none }) (v := ?v5_9) (by kernel_rfl) (by kernel_rfl) (by kernel_rfl) (by kernel_rfl) (fun _ _ _ h => h) (Or.inl ⟨by kernel_rfl, ?h5_9⟩) hHeld ?r5_9
              case h5_9 => (intro w hSw; (try dsimp only at hSw); go_simp; try with_reducible rfl)
              try simp only [Act.put, List.setIfInBounds_toArray, List.set_cons_zero, List.set_cons_succ]
              refine wpAnyH_done (by kernel_rfl) ?_ _
              all_goals go_wp2_with fail
              go_roundw
              case rel => exact ⟨(j + 1) + 1, by omega, by go_num, by rw [txt_succ l bs (j + 1) HN.out HX.out]; exact str_app3 _ _ _, hHeld.2.2⟩
              case measure => simp [intOf]; omega
          · have HNN := Lib.hid (show blC l (j + 1) n = n by unfold blC; rw [if_neg (by omega)])
            have hne : ((n : Int) == 0) = false := by rw [beq_eq_false_iff_ne]; omega
            have HN := Lib.hid (show blN l bs (j + 1) = n by rw [HB.out, HNN.out])
            go_wp2_with fail
            refine wp_region_held_drew (S := fun W => SB w2 W b2 (o2 + (j + 1)) (str x)) (by kernel_rfl) (by exact SB_drew hsb) (fun hHeld => ?_)
            refine wpAnyH_take (i := 0) (oi := { dst := some 78, op := Op.move (Operand.tmp 8), type := 9, pos := "outright.go:81", after := #[], guard := none }) (v := ?v6_0) (by kernel_rfl) (by kernel_rfl) (by kernel_rfl) (by kernel_rfl) (fun _ _ _ h => h) (Or.inl ⟨by kernel_rfl, ?h6_0⟩) hHeld ?r6_0
            case h6_0 => (intro w hSw; (try dsimp only at hSw); go_simp; try with_reducible rfl)
            try simp only [Act.put, List.setIfInBounds_toArray, List.set_cons_zero, List.set_cons_succ]
            refine wpAnyH_take (i := 1) (oi := { dst := some 79, op := Op.move (Operand.tmp 10), type := 3, pos := "outright.go:81", after := #[], guard := none }) (v := ?v6_1) (by kernel_rfl) (by kernel_rfl) (by kernel_rfl) (by kernel_rfl) (fun _ _ _ h => h) (Or.inl ⟨by kernel_rfl, ?h6_1⟩) hHeld ?r6_1
            case h6_1 => (intro w hSw; (try dsimp only at hSw); go_simp; try with_reducible rfl)
            try simp only [Act.put, List.setIfInBounds_toArray, List.set_cons_zero, List.set_cons_succ]
            refine wpAnyH_take (i := 3) (oi := { dst := some 81, op := Op.move (Operand.tmp 5), type := 24, pos := "outright.go:81", after := #[], guard := none }) (v := ?v6_3) (by kernel_rfl) (by kernel_rfl) (by kernel_rfl) (by kernel_rfl) (fun _ _ _ h => h) (Or.inl ⟨by kernel_rfl, ?h6_3⟩) hHeld ?r6_3
            case h6_3 => (intro w hSw; (try dsimp only at hSw); go_simp; try with_reducible rfl)
            try simp only [Act.put, List.setIfInBounds_toArray, List.set_cons_zero, List.set_cons_succ]
            refine wpAnyH_take (i := 4) (oi := { dst := some 82, op := Op.move (Operand.tmp 9), type := 3, pos := "outright.go:81", after := #[], guard := none }) (v := ?v6_4) (by kernel_rfl) (by kernel_rfl) (by kernel_rfl) (by kernel_rfl) (fun _ _ _ h => h) (Or.inl ⟨by kernel_rfl, ?h6_4⟩) hHeld ?r6_4
            case h6_4 => (intro w hSw; (try dsimp only at hSw); go_simp; try with_reducible rfl)
            try simp only [Act.put, List.setIfInBounds_toArray, List.set_cons_zero, List.set_cons_succ]
            refine wpAnyH_take (i := 5) (oi := { dst := some 83, op := Op.indexAddr 24 (Operand.tmp 81) (Operand.tmp 82), type := 0, pos := "outright.go:81", after := #[{ on := 3, ground := Ground.data }, { on := 4, ground := Ground.data }], guard := none }) (v := ?v6_5) (by kernel_rfl) (by kernel_rfl) (by kernel_rfl) (by kernel_rfl) (fun _ _ _ h => h) (Or.inl ⟨by kernel_rfl, ?h6_5⟩) hHeld ?r6_5
            case h6_5 => (intro w hSw; (try dsimp only at hSw); go_simp; try with_reducible rfl)
            try simp only [Act.put, List.setIfInBounds_toArray, List.set_cons_zero, List.set_cons_succ]
            refine wpAnyH_take (i := 6) (oi := { dst := some 84, op := Op.load 9 (Operand.tmp 83), type := 9, pos := "outright.go:81", after := #[{ on := 5, ground := Ground.data }], guard := none }) (v := ?v6_6) (by kernel_rfl) (by kernel_rfl) (by kernel_rfl) (by kernel_rfl) (fun _ _ _ h => h) (Or.inl ⟨by kernel_rfl, ?h6_6⟩) hHeld ?r6_6
            case h6_6 => (intro w hSw; (try dsimp only at hSw); go_simp; try with_reducible rfl)
            try simp only [Act.put, List.setIfInBounds_toArray, List.set_cons_zero, List.set_cons_succ]
            refine wpAnyH_ready (rs := [2]) (by kernel_rfl) (by simp) ?_
            refine AllReadyH.cons (i := 2) (o := { dst := some 80, op := Op.call { callee := Callee.value (Operand.func 25), args := #[Operand.const (Value.string { data := #[32] }), Operand.tmp 79], argTypes := #[9, 3] }, type := 9, pos := "outright.go:81", after := #[{ on := 1, ground := Ground.data }], guard := none }) rfl (fun K hK => ?_) AllReadyH.nil
            go_simp
            refine (repeat_any n _ (by omega)).mono ?_
            rintro e w3 ⟨rfl, hb3⟩
            go_wp2_with fail
            refine hK.out _ _ (by exact SB_keep (by assumption) (by assumption)) (fun hHeld => ?_)
            clear hK K
            try simp only [Act.put, List.setIfInBounds_toArray, List.set_cons_zero, List.set_cons_succ]
            refine wpAnyH_take (i := 7) (oi := { dst := some 85, op := Op.binOp BinOp.add 9 (Operand.tmp 80) (Operand.tmp 84) 9, type := 9, pos := "outright.go:81", after := #[{ on := 2, ground := Ground.data }, { on := 6, ground := Ground.data }], guard := none }) (v := ?v6_7) (by kernel_rfl) (by kernel_rfl) (by kernel_rfl) (by kernel_rfl) (fun _ _ _ h => h) (Or.inl ⟨by kernel_rfl, ?h6_7⟩) hHeld ?r6_7
            case h6_7 => (intro w hSw; (try dsimp only at hSw); go_simp; rw [if_neg (by (try simp [bl]); omega)]; try with_reducible rfl)
            try simp only [Act.put, List.setIfInBounds_toArray, List.set_cons_zero, List.set_cons_succ]
            refine wpAnyH_take (i := 8) (oi := { dst := some 86, op := Op.binOp BinOp.add 9 (Operand.tmp 78) (Operand.tmp 85) 9, type := 9, pos := "outright.go:81", after := #[{ on := 0, ground := Ground.data }, { on := 7, ground := Ground.data }], guard := none }) (v := ?v6_8) (by kernel_rfl) (by kernel_rfl) (by kernel_rfl) (by kernel_rfl) (fun _ _ _ h => h) (Or.inl ⟨by kernel_rfl, ?h6_8⟩) hHeld ?r6_8
            case h6_8 => (intro w hSw; (try dsimp only at hSw); go_simp; rw [if_neg (by (try simp [bl]); omega)]; try with_reducible rfl)
            try simp only [Act.put, List.setIfInBounds_toArray, List.set_cons_zero, List.set_cons_succ]
            refine wpAnyH_take (i := 9) (oi := { dst := some 8, op := Op.assign (Operand.tmp 86), type := 9, pos := "outright.go:81", after := #[{ on := 8, ground := Ground.data }, { on := 2, ground := Ground.chain }, { on := 0, ground := Ground.phase }, { on := 1, ground := Ground.phase }, { on := 2, ground := Ground.phase }, { on := 3, ground := Ground.phase }, { on := 4, ground := Ground.phase }, { on := 5, ground := Ground.phase }, { on := 6, ground := Ground.phase }, { on := 7, ground := Ground.phase }, { on := 8, ground := Ground.phase }], guard := none }) (v := ?v6_9) (by kernel_rfl) (by kernel_rfl) (by kernel_rfl) (by kernel_rfl) (fun _ _ _ h => h) (Or.inl ⟨by kernel_rfl, ?h6_9⟩) hHeld ?r6_9
            case h6_9 => (intro w hSw; (try dsimp only at hSw); go_simp; try with_reducible rfl)
            try simp only [Act.put, List.setIfInBounds_toArray, List.set_cons_zero, List.set_cons_succ]
            refine wpAnyH_done (by kernel_rfl) ?_ _
            all_goals go_wp2_with fail
            go_roundw
            case rel => exact ⟨(j + 1) + 1, by omega, by go_num, by rw [txt_succ l bs (j + 1) HN.out HX.out]; exact str_app3 _ _ _, hHeld.2.2⟩
            case measure => simp [intOf]; omega
      · skip
        have HB : Hid (blN l bs k = blC l k 1) := blN_eq (by rw [if_neg (by omega)])
        rcases Nat.eq_zero_or_pos k with hk0 | hk0
        · subst hk0
          simp only [Nat.add_zero] at hce hsb
          have HN := Lib.hid (show blN l bs 0 = 1 by rw [HB.out]; unfold blC; rw [if_neg (by omega)])
          go_wp2_with fail
          refine wp_region_held_drew (S := fun W => SB w2 W b2 o2 (str x)) (by kernel_rfl) (by exact SB_drew hsb) (fun hHeld => ?_)
          refine wpAnyH_take (i := 0) (oi := { dst := some 78, op := Op.move (Operand.tmp 8), type := 9, pos := "outright.go:81", after := #[], guard := none }) (v := ?v7_0) (by kernel_rfl) (by kernel_rfl) (by kernel_rfl) (by kernel_rfl) (fun _ _ _ h => h) (Or.inl ⟨by kernel_rfl, ?h7_0⟩) hHeld ?r7_0
          case h7_0 => (intro w hSw; (try dsimp only at hSw); go_simp; try with_reducible rfl)
          try simp only [Act.put, List.setIfInBounds_toArray, List.set_cons_zero, List.set_cons_succ]
          refine wpAnyH_take (i := 1) (oi := { dst := some 79, op := Op.move (Operand.tmp 10), type := 3, pos := "outright.go:81", after := #[], guard := none }) (v := ?v7_1) (by kernel_rfl) (by kernel_rfl) (by kernel_rfl) (by kernel_rfl) (fun _ _ _ h => h) (Or.inl ⟨by kernel_rfl, ?h7_1⟩) hHeld ?r7_1
          case h7_1 => (intro w hSw; (try dsimp only at hSw); go_simp; try with_reducible rfl)
          try simp only [Act.put, List.setIfInBounds_toArray, List.set_cons_zero, List.set_cons_succ]
          refine wpAnyH_take (i := 3) (oi := { dst := some 81, op := Op.move (Operand.tmp 5), type := 24, pos := "outright.go:81", after := #[], guard := none }) (v := ?v7_3) (by kernel_rfl) (by kernel_rfl) (by kernel_rfl) (by kernel_rfl) (fun _ _ _ h => h) (Or.inl ⟨by kernel_rfl, ?h7_3⟩) hHeld ?r7_3
          case h7_3 => (intro w hSw; (try dsimp only at hSw); go_simp; try with_reducible rfl)
          try simp only [Act.put, List.setIfInBounds_toArray, List.set_cons_zero, List.set_cons_succ]
          refine wpAnyH_take (i := 4) (oi := { dst := some 82, op := Op.move (Operand.tmp 9), type := 3, pos := "outright.go:81", after := #[], guard := none }) (v := ?v7_4) (by kernel_rfl) (by kernel_rfl) (by kernel_rfl) (by kernel_rfl) (fun _ _ _ h => h) (Or.inl ⟨by kernel_rfl, ?h7_4⟩) hHeld ?r7_4
          case h7_4 => (intro w hSw; (try dsimp only at hSw); go_simp; try with_reducible rfl)
          try simp only [Act.put, List.setIfInBounds_toArray, List.set_cons_zero, List.set_cons_succ]
          refine wpAnyH_take (i := 5) (oi := { dst := some 83, op := Op.indexAddr 24 (Operand.tmp 81) (Operand.tmp 82), type := 0, pos := "outright.go:81", after := #[{ on := 3, ground := Ground.data }, { on := 4, ground := Ground.data }], guard := none }) (v := ?v7_5) (by kernel_rfl) (by kernel_rfl) (by kernel_rfl) (by kernel_rfl) (fun _ _ _ h => h) (Or.inl ⟨by kernel_rfl, ?h7_5⟩) hHeld ?r7_5
          case h7_5 => (intro w hSw; (try dsimp only at hSw); go_simp; try with_reducible rfl)
          try simp only [Act.put, List.setIfInBounds_toArray, List.set_cons_zero, List.set_cons_succ]
          refine wpAnyH_take (i := 6) (oi := { dst := some 84, op := Op.load 9 (Operand.tmp 83), type := 9, pos := "outright.go:81", after := #[{ on := 5, ground := Ground.data }], guard := none }) (v := ?v7_6) (by kernel_rfl) (by kernel_rfl) (by kernel_rfl) (by kernel_rfl) (fun _ _ _ h => h) (Or.inl ⟨by kernel_rfl, ?h7_6⟩) hHeld ?r7_6
          case h7_6 => (intro w hSw; (try dsimp only at hSw); go_simp; try with_reducible rfl)
          try simp only [Act.put, List.setIfInBounds_toArray, List.set_cons_zero, List.set_cons_succ]
          refine wpAnyH_ready (rs := [2]) (by kernel_rfl) (by simp) ?_
          refine AllReadyH.cons (i := 2) (o := { dst := some 80, op := Op.call { callee := Callee.value (Operand.func 25), args := #[Operand.const (Value.string { data := #[32] }), Operand.tmp 79], argTypes := #[9, 3] }, type := 9, pos := "outright.go:81", after := #[{ on := 1, ground := Ground.data }], guard := none }) rfl (fun K hK => ?_) AllReadyH.nil
          go_simp
          refine (repeat_any 1 _ (by omega)).mono ?_
          rintro e w3 ⟨rfl, hb3⟩
          go_wp2_with fail
          refine hK.out _ _ (by exact SB_keep (by assumption) (by assumption)) (fun hHeld => ?_)
          clear hK K
          try simp only [Act.put, List.setIfInBounds_toArray, List.set_cons_zero, List.set_cons_succ]
          refine wpAnyH_take (i := 7) (oi := { dst := some 85, op := Op.binOp BinOp.add 9 (Operand.tmp 80) (Operand.tmp 84) 9, type := 9, pos := "outright.go:81", after := #[{ on := 2, ground := Ground.data }, { on := 6, ground := Ground.data }], guard := none }) (v := ?v7_7) (by kernel_rfl) (by kernel_rfl) (by kernel_rfl) (by kernel_rfl) (fun _ _ _ h => h) (Or.inl ⟨by kernel_rfl, ?h7_7⟩) hHeld ?r7_7
          case h7_7 => (intro w hSw; (try dsimp only at hSw); go_simp; rw [if_neg (by (try simp [bl]); omega)]; try with_reducible rfl)
          try simp only [Act.put, List.setIfInBounds_toArray, List.set_cons_zero, List.set_cons_succ]
          refine wpAnyH_take (i := 8) (oi := { dst := some 86, op := Op.binOp BinOp.add 9 (Operand.tmp 78) (Operand.tmp 85) 9, type := 9, pos := "outright.go:81", after := #[{ on := 0, ground := Ground.data }, { on := 7, ground := Ground.data }], guard := none }) (v := ?v7_8) (by kernel_rfl) (by kernel_rfl) (by kernel_rfl) (by kernel_rfl) (fun _ _ _ h => h) (Or.inl ⟨by kernel_rfl, ?h7_8⟩) hHeld ?r7_8
          case h7_8 => (intro w hSw; (try dsimp only at hSw); go_simp; rw [if_neg (by (try simp [bl]); omega)]; try with_reducible rfl)
          try simp only [Act.put, List.setIfInBounds_toArray, List.set_cons_zero, List.set_cons_succ]
          refine wpAnyH_take (i := 9) (oi := { dst := some 8, op := Op.assign (Operand.tmp 86), type := 9, pos := "outright.go:81", after := #[{ on := 8, ground := Ground.data }, { on := 2, ground := Ground.chain }, { on := 0, ground := Ground.phase }, { on := 1, ground := Ground.phase }, { on := 2, ground := Ground.phase }, { on := 3, ground := Ground.phase }, { on := 4, ground := Ground.phase }, { on := 5, ground := Ground.phase }, { on := 6, ground := Ground.phase }, { on := 7, ground := Ground.phase }, { on := 8, ground := Ground.phase }], guard := none }) (v := ?v7_9) (by kernel_rfl) (by kernel_rfl) (by kernel_rfl) (by kernel_rfl) (fun _ _ _ h => h) (Or.inl ⟨by kernel_rfl, ?h7_9⟩) hHeld ?r7_9
          case h7_9 => (intro w hSw; (try dsimp only at hSw); go_simp; try with_reducible rfl)
          try simp only [Act.put, List.setIfInBounds_toArray, List.set_cons_zero, List.set_cons_succ]
          refine wpAnyH_done (by kernel_rfl) ?_ _
          all_goals go_wp2_with fail
          go_roundw
          case rel => exact ⟨0 + 1, by omega, by go_num, by rw [txt_succ l bs 0 HN.out HX.out]; exact str_app3 _ _ _, hHeld.2.2⟩
          case measure => simp [intOf]; omega
        · obtain ⟨j, rfl⟩ : ∃ j, k = j + 1 := ⟨k - 1, by omega⟩
          have hj1 : (0 : Int) ≤ (j : Int) + 1 := by omega
          have HNN := Lib.hid (show blC l (j + 1) 1 = 1 by unfold blC; rw [if_neg (by omega)])
          have HN := Lib.hid (show blN l bs (j + 1) = 1 by rw [HB.out, HNN.out])
          go_wp2_with fail
          refine wp_region_held_drew (S := fun W => SB w2 W b2 (o2 + (j + 1)) (str x)) (by kernel_rfl) (by exact SB_drew hsb) (fun hHeld => ?_)
          refine wpAnyH_take (i := 0) (oi := { dst := some 78, op := Op.move (Operand.tmp 8), type := 9, pos := "outright.go:81", after := #[], guard := none }) (v := ?v8_0) (by kernel_rfl) (by kernel_rfl) (by kernel_rfl) (by kernel_rfl) (fun _ _ _ h => h) (Or.inl ⟨by kernel_rfl, ?h8_0⟩) hHeld ?r8_0
          case h8_0 => (intro w hSw; (try dsimp only at hSw); go_simp; try with_reducible rfl)
          try simp only [Act.put, List.setIfInBounds_toArray, List.set_cons_zero, List.set_cons_succ]
          refine wpAnyH_take (i := 1) (oi := { dst := some 79, op := Op.move (Operand.tmp 10), type := 3, pos := "outright.go:81", after := #[], guard := none }) (v := ?v8_1) (by kernel_rfl) (by kernel_rfl) (by kernel_rfl) (by kernel_rfl) (fun _ _ _ h => h) (Or.inl ⟨by kernel_rfl, ?h8_1⟩) hHeld ?r8_1
          case h8_1 => (intro w hSw; (try dsimp only at hSw); go_simp; try with_reducible rfl)
          try simp only [Act.put, List.setIfInBounds_toArray, List.set_cons_zero, List.set_cons_succ]
          refine wpAnyH_take (i := 3) (oi := { dst := some 81, op := Op.move (Operand.tmp 5), type := 24, pos := "outright.go:81", after := #[], guard := none }) (v := ?v8_3) (by kernel_rfl) (by kernel_rfl) (by kernel_rfl) (by kernel_rfl) (fun _ _ _ h => h) (Or.inl ⟨by kernel_rfl, ?h8_3⟩) hHeld ?r8_3
          case h8_3 => (intro w hSw; (try dsimp only at hSw); go_simp; try with_reducible rfl)
          try simp only [Act.put, List.setIfInBounds_toArray, List.set_cons_zero, List.set_cons_succ]
          refine wpAnyH_take (i := 4) (oi := { dst := some 82, op := Op.move (Operand.tmp 9), type := 3, pos := "outright.go:81", after := #[], guard := none }) (v := ?v8_4) (by kernel_rfl) (by kernel_rfl) (by kernel_rfl) (by kernel_rfl) (fun _ _ _ h => h) (Or.inl ⟨by kernel_rfl, ?h8_4⟩) hHeld ?r8_4
          case h8_4 => (intro w hSw; (try dsimp only at hSw); go_simp; try with_reducible rfl)
          try simp only [Act.put, List.setIfInBounds_toArray, List.set_cons_zero, List.set_cons_succ]
          refine wpAnyH_take (i := 5) (oi := { dst := some 83, op := Op.indexAddr 24 (Operand.tmp 81) (Operand.tmp 82), type := 0, pos := "outright.go:81", after := #[{ on := 3, ground := Ground.data }, { on := 4, ground := Ground.data }], guard := none }) (v := ?v8_5) (by kernel_rfl) (by kernel_rfl) (by kernel_rfl) (by kernel_rfl) (fun _ _ _ h => h) (Or.inl ⟨by kernel_rfl, ?h8_5⟩) hHeld ?r8_5
          case h8_5 => (intro w hSw; (try dsimp only at hSw); go_simp; try with_reducible rfl)
          try simp only [Act.put, List.setIfInBounds_toArray, List.set_cons_zero, List.set_cons_succ]
          refine wpAnyH_take (i := 6) (oi := { dst := some 84, op := Op.load 9 (Operand.tmp 83), type := 9, pos := "outright.go:81", after := #[{ on := 5, ground := Ground.data }], guard := none }) (v := ?v8_6) (by kernel_rfl) (by kernel_rfl) (by kernel_rfl) (by kernel_rfl) (fun _ _ _ h => h) (Or.inl ⟨by kernel_rfl, ?h8_6⟩) hHeld ?r8_6
          case h8_6 => (intro w hSw; (try dsimp only at hSw); go_simp; try with_reducible rfl)
          try simp only [Act.put, List.setIfInBounds_toArray, List.set_cons_zero, List.set_cons_succ]
          refine wpAnyH_ready (rs := [2]) (by kernel_rfl) (by simp) ?_
          refine AllReadyH.cons (i := 2) (o := { dst := some 80, op := Op.call { callee := Callee.value (Operand.func 25), args := #[Operand.const (Value.string { data := #[32] }), Operand.tmp 79], argTypes := #[9, 3] }, type := 9, pos := "outright.go:81", after := #[{ on := 1, ground := Ground.data }], guard := none }) rfl (fun K hK => ?_) AllReadyH.nil
          go_simp
          refine (repeat_any 1 _ (by omega)).mono ?_
          rintro e w3 ⟨rfl, hb3⟩
          go_wp2_with fail
          refine hK.out _ _ (by exact SB_keep (by assumption) (by assumption)) (fun hHeld => ?_)
          clear hK K
          try simp only [Act.put, List.setIfInBounds_toArray, List.set_cons_zero, List.set_cons_succ]
          refine wpAnyH_take (i := 7) (oi := { dst := some 85, op := Op.binOp BinOp.add 9 (Operand.tmp 80) (Operand.tmp 84) 9, type := 9, pos := "outright.go:81", after := #[{ on := 2, ground := Ground.data }, { on := 6, ground := Ground.data }], guard := none }) (v := ?v8_7) (by kernel_rfl) (by kernel_rfl) (by kernel_rfl) (by kernel_rfl) (fun _ _ _ h => h) (Or.inl ⟨by kernel_rfl, ?h8_7⟩) hHeld ?r8_7
          case h8_7 => (intro w hSw; (try dsimp only at hSw); go_simp; rw [if_neg (by (try simp [bl]); omega)]; try with_reducible rfl)
          try simp only [Act.put, List.setIfInBounds_toArray, List.set_cons_zero, List.set_cons_succ]
          refine wpAnyH_take (i := 8) (oi := { dst := some 86, op := Op.binOp BinOp.add 9 (Operand.tmp 78) (Operand.tmp 85) 9, type := 9, pos := "outright.go:81", after := #[{ on := 0, ground := Ground.data }, { on := 7, ground := Ground.data }], guard := none }) (v := ?v8_8) (by kernel_rfl) (by kernel_rfl) (by kernel_rfl) (by kernel_rfl) (fun _ _ _ h => h) (Or.inl ⟨by kernel_rfl, ?h8_8⟩) hHeld ?r8_8
          case h8_8 => (intro w hSw; (try dsimp only at hSw); go_simp; rw [if_neg (by (try simp [bl]); omega)]; try with_reducible rfl)
          try simp only [Act.put, List.setIfInBounds_toArray, List.set_cons_zero, List.set_cons_succ]
          refine wpAnyH_take (i := 9) (oi := { dst := some 8, op := Op.assign (Operand.tmp 86), type := 9, pos := "outright.go:81", after := #[{ on := 8, ground := Ground.data }, { on := 2, ground := Ground.chain }, { on := 0, ground := Ground.phase }, { on := 1, ground := Ground.phase }, { on := 2, ground := Ground.phase }, { on := 3, ground := Ground.phase }, { on := 4, ground := Ground.phase }, { on := 5, ground := Ground.phase }, { on := 6, ground := Ground.phase }, { on := 7, ground := Ground.phase }, { on := 8, ground := Ground.phase }], guard := none }) (v := ?v8_9) (by kernel_rfl) (by kernel_rfl) (by kernel_rfl) (by kernel_rfl) (fun _ _ _ h => h) (Or.inl ⟨by kernel_rfl, ?h8_9⟩) hHeld ?r8_9
          case h8_9 => (intro w hSw; (try dsimp only at hSw); go_simp; try with_reducible rfl)
          try simp only [Act.put, List.setIfInBounds_toArray, List.set_cons_zero, List.set_cons_succ]
          refine wpAnyH_done (by kernel_rfl) ?_ _
          all_goals go_wp2_with fail
          go_roundw
          case rel => exact ⟨(j + 1) + 1, by omega, by go_num, by rw [txt_succ l bs (j + 1) HN.out HX.out]; exact str_app3 _ _ _, hHeld.2.2⟩
          case measure => simp [intOf]; omega
    · obtain rfl : k = l.length := by omega
      have htl : (txtB l bs l.length).length ≤ 600 := by
        have h1 := txt_len l bs l.length hk
        have h2 := tot_take l l.length
        have h3 := HT1.out
        omega
      have hbl : (bl bs.length).length ≤ 100 := by simp [bl]; omega
      go_wp2_with fail
      (try go_at_call 25); refine (repeat_any bs.length _ (by omega)).mono ?_; rintro e w3 ⟨rfl, hb3⟩
      go_wp2_with fail
      (try go_at_call 21); rw [ByteArray.mk_append_mk]; refine (tokens_any (txtB l bs l.length ++ bl bs.length) _ (by have := HL.out; omega)).mono ?_; rw [HE.out]; rintro e w4 ⟨A4, c4, rfl, hc4, hr4, hb4⟩
      have hbx := below_then hb (below_then hb3 hb4)
      have hr5 := (HR2.out).later hbx
      go_wp2_with fail
      (try go_at_call 16); refine (sameTexts_any l l A2 A4 c2 c4 _ (by omega) hr5 hr4).mono ?_; rw [beq_self_eq_true]; rintro e w6 ⟨rfl, hb6⟩
      go_wp2_with fail
      go_ret
      exact ⟨rfl, below_then hb0 (below_then hbx hb6)⟩
set_option maxRecDepth 100000 in
set_option maxHeartbeats 1600000 in
theorem wordsBlanks_core (s bs : List UInt8) (A : Option Addr) (c : Nat) (w : World) (hs : s.length ≤ maxLen) (hc : bs.length ≤ c) (hcm : c ≤ maxLen) (hr : Reads w w.heap.size 1 A bs.length (bs.map byteV)) :
    Calls Tryd.prog 9 #[str s, .slice A bs.length c] w fun e w' => e = .returned (.bool true) ∧ Below w.heap.size w w' := by
  cases hd : decide (150 < (s.length : Int))
  · have hs5 : s.length ≤ 150 := by simp at hd; omega
    rcases tokensR_cases s (by omega) with ⟨l, hT⟩ | ⟨a, hT⟩
    · cases hd2 : decide (100 < (bs.length : Int))
      · exact blanks_main s bs A c w l hT hs5 (by have := of_decide_eq_false hd2; omega) hc hcm hr
      · clear hr
        unfold maxLen at hcm
        have HT := Lib.hid hT; clear hT
        go_enter Tryd.func9, Tryd.ntmps9
        go_wp2_with fail
        go_at_call 12; refine (awake_any _).mono ?_; rintro e w1 ⟨rfl, hb1⟩
        go_wp2_with fail
        go_at_call 21; refine (tokens_any s _ (by omega)).mono ?_; rw [HT.out]; rintro e w2 ⟨A2, c2, rfl, -, -, hb2⟩
        go_wp2_with fail
        go_ret
        exact ⟨rfl, below_then hb1 hb2⟩
    · clear hr
      unfold maxLen at hcm
      have HT := Lib.hid hT; clear hT
      go_enter Tryd.func9, Tryd.ntmps9
      go_wp2_with fail
      go_at_call 12; refine (awake_any _).mono ?_; rintro e w1 ⟨rfl, hb1⟩
      go_wp2_with fail
      go_at_call 21; refine (tokens_any s _ (by omega)).mono ?_; rw [HT.out]; rintro e w2 ⟨A2, c2, rfl, -, -, hb2⟩
      go_wp2_with fail
      go_ret
      exact ⟨rfl, below_then hb1 hb2⟩
  · clear hr
    have HTK : Hid (∀ W : World, Calls Tryd.prog 21 #[str s] W fun e w' => ∃ v p r, e = .returned (.tuple #[v, .int .i64 p, .int .i64 r]) ∧ Below W.heap.size W w') := fun W => by
      rcases Nat.lt_or_ge 1000 s.length with hbig | hbig
      · exact (tokens_long s W hbig hs).mono fun e w' ⟨h1, h2⟩ => ⟨_, _, _, h1, h2⟩
      · exact (tokens_any s W (by omega)).mono fun e w' ⟨A, c, h1, _, _, h2⟩ => ⟨_, _, _, h1, h2⟩
    unfold maxLen at hcm hs
    go_enter Tryd.func9, Tryd.ntmps9
    go_wp2_with fail
    go_at_call 12; refine (awake_any _).mono ?_; rintro e w1 ⟨rfl, hb1⟩
    go_wp2_with fail
    go_at_call 21; refine ((HTK.out) _).mono ?_; rintro e w2 ⟨v2, p2, r2, rfl, hb2⟩
    go_wp2_with fail
    go_ret
    exact ⟨rfl, below_then hb1 hb2⟩
end Go.Proofs.YtbbgieopcmjoeaaDoor
