/- WordsWrong: the law's walk, fault by fault. -/
import Derived.Test.YtbbgieopcmjoeaaDoorAddA
import Derived.Test.YtbbgieopcmjoeaaDoorLawFound
import Derived.Test.YtbbgieopcmjoeaaDoorAppAny
namespace Go.Proofs.YtbbgieopcmjoeaaDoor
open Go.RowKit
theorem infoEnt : (Tryd.prog.info? 39).map (fun i => (i.zero, i.size, i.bytes)) = some (some (.agg #[.string ⟨#[]⟩, .int .u8 0, .string ⟨#[]⟩]), 3, 40) := by kernel_rfl
theorem own_empty (W : World) (base t : Nat) (hb : base ≤ W.heap.size) : (W.alloc (.cells #[] t)).ownsRow base t 3 (.slice (some ⟨W.heap.size, 0, none⟩) 0 0) 0 [] :=
  ⟨rfl, .inr ⟨W.heap.size, 0, #[], rfl, hb, heap_alloc_new W _, Nat.le_refl _, Nat.zero_le _, rfl, rfl⟩⟩
theorem blk_reads {W : World} {g t size n : Nat} {cs : List Value} (h : Blk W g t cs.toArray) (hc : cs.length = n * size) : Reads W W.heap.size size (some ⟨g, 0, none⟩) n cs := by
  refine ⟨hc, fun _ => ⟨_, rfl, h.lt, fun j u hu => ?_⟩⟩
  have e : (⟨g, 0, none⟩ : Addr).add j = ⟨g, j, none⟩ := by unfold Addr.add; split <;> simp_all
  rw [e, h.cell j]
  simpa using hu
theorem flat_one (l : List Ent) : ∀ u ∈ flat l, u.oneCell' = true := by
  intro u hu
  obtain ⟨e, -, he⟩ := List.mem_flatMap.1 hu
  simp only [entCells, List.mem_cons, List.not_mem_nil, or_false] at he
  rcases he with rfl | rfl | rfl <;> rfl
theorem flat_snoc (l : List Ent) (e : Ent) : flat (l ++ [e]) = flat l ++ entCells e := by simp [flat]
theorem valid_snoc (l : List Ent) {e : Ent} (h : rightL e = false) : validL (l ++ [e]) = false :=
  valid_bad (k := l.length) (by simp) (by rw [okAt_eq (e := e) (by simp) (by simp)]; unfold okE; rw [h]; rfl)
theorem look_snoc (l : List Ent) {e : Ent} (h : rightL e = false) (tok : List UInt8) : lookR (l ++ [e]) tok = ([], 2) := by
  unfold lookR; rw [valid_snoc l h]; rfl
theorem look_bad (l : List Ent) (e : Ent) (tok : List UInt8) (A : Option Addr) (n c : Nat) (w : World) (hn : n = l.length + 1) (h : rightL e = false) (hw : ∀ x ∈ l, x.1.length ≤ 1048576) (he : e.1.length ≤ 1048576) (hc : n ≤ c) (cs : List Value) (hcs : cs = entCells e) (hr : Reads w w.heap.size 3 A n (flat l ++ cs)) :
    Calls Tryd.prog 18 #[.slice A n c, str tok] w fun e' w' => ∃ A' c', e' = .returned (.tuple #[.slice A' 0 c', .int .i64 2]) ∧ Below w.heap.size w w' := by
  have hn' : n = (l ++ [e]).length := by simp [hn]
  subst hn' hcs
  rw [← flat_snoc] at hr
  have hx := look_any (l ++ [e]) tok A c w (fun x hx => by
    rcases List.mem_append.1 hx with hx | hx
    · exact hw x hx
    · obtain rfl := List.mem_singleton.1 hx; exact he) hc hr
  rw [look_snoc l h] at hx
  exact hx.mono fun e' w' ⟨A', c', h1, _, _, h2⟩ => ⟨A', c', h1, h2⟩
theorem text_no (toks : List (List UInt8)) (A : Option Addr) (c : Nat) (W : World) (hx : textR toks = ([], 2)) (hl : toks.length ≤ 3) (hc : toks.length ≤ c) (hs : ∀ t ∈ toks, t.length ≤ 30) (hr : Reads W W.heap.size 1 A toks.length (toks.map str)) :
    Calls Tryd.prog 14 #[.slice A toks.length c] W fun e w' => e = .returned (.tuple #[str [], .int .i64 2]) ∧ Below W.heap.size W w' := by
  have h := text_any toks A c W (by omega) hc (fun t ht => by have := hs t ht; omega) hr
  rw [hx] at h
  exact h
set_option maxRecDepth 100000 in
set_option maxHeartbeats 6400000 in
theorem wrong_0 (l : List Ent) (f : Int) (A : Option Addr) (c : Nat) (w : World) (h0 : 0 ≤ f) (h1 : f < 256) (hf : f % 8 = 0) (hv : validL l = true) (hsm : smallL l = true) (hr : Reads w w.heap.size 3 A l.length (flat l)) (hle : l.length ≤ c) :
    Calls Tryd.prog 10 #[.slice A l.length c, .int .u8 f] w fun e w' => e = .returned (.bool true) ∧ Below w.heap.size w w' := by
  obtain ⟨hl, hsz⟩ := small_each hsm
  obtain ⟨i0, hi, hz0, hz1, hz2⟩ := info_parts infoEnt
  have HSM := Lib.hid hsm
  have HV := Lib.hid hv
  have HS := Lib.hid hsz
  have HR := Lib.hid hr
  clear hsm hv hsz hr
  go_enter Tryd.func10, Tryd.ntmps10
  go_wp2_with fail
  go_at_call 12; refine (awake_any _).mono ?_; rintro e w1 ⟨rfl, hb1⟩
  go_wp2_with fail
  go_at_call 17; refine (small_any l A c _ ((HR.out).later hb1) (fun e h => by have := HS.out e h; unfold maxLen; omega)).mono ?_; rw [HSM.out]; rintro e w2 ⟨rfl, rfl⟩
  go_wp2_with fail
  go_at_call 19; refine (valid_any l A c _ (fun e h => by have := (HS.out e h).1; omega) hle ((HR.out).later hb1)).mono ?_; rw [HV.out]; rintro e w3 ⟨rfl, hb3⟩
  go_wp2_with fail
  obtain ⟨W1, hW1⟩ : ∃ W1 : World, W1 = (w3.alloc (.cells #[str [90, 101, 98, 114, 97], .int .u8 1, str [90, 101, 98, 114, 97]] 39)).alloc (.cells #[str [69, 118, 101, 114, 121], str [115, 108, 101, 101, 112, 115], str [46]] 9) := ⟨_, rfl⟩
  have hb4 : Below w3.heap.size w3 W1 := by rw [hW1]; exact ((Below.refl _ _).alloc (Nat.le_refl _) _).alloc (by simp) _
  have hbk : Blk W1 w3.heap.size 39 #[str [90, 101, 98, 114, 97], .int .u8 1, str [90, 101, 98, 114, 97]] := by rw [hW1]; exact (Blk.new w3 _ _).alloc _
  have hbt : Blk W1 (w3.heap.size + 1) 9 (([[69, 118, 101, 114, 121], [115, 108, 101, 101, 112, 115], [46]] : List (List UInt8)).map str).toArray := by rw [hW1]; have h := Blk.new (w3.alloc (.cells #[str [90, 101, 98, 114, 97], .int .u8 1, str [90, 101, 98, 114, 97]] 39)) 9 #[str [69, 118, 101, 114, 121], str [115, 108, 101, 101, 112, 115], str [46]]; rw [World.size_alloc] at h; exact h
  have HTX : Hid (∀ W, Below W1.heap.size W1 W → Calls Tryd.prog 14 #[.slice (some ⟨w3.heap.size + 1, 0, none⟩) 3 3] W fun e w' => e = .returned (.tuple #[str [], .int .i64 2]) ∧ Below W.heap.size W w') := fun W hb => text_no [[69, 118, 101, 114, 121], [115, 108, 101, 101, 112, 115], [46]] (some ⟨w3.heap.size + 1, 0, none⟩) 3 W (by kernel_rfl) (by simp) (by simp) (by simp) (blk_reads (hbt.later hb) (by simp))
  clear hbt
  have HRT : Hid (rightL ([90, 101, 98, 114, 97], 1, [90, 101, 98, 114, 97]) = false) := (by kernel_rfl : rightL ([90, 101, 98, 114, 97], 1, [90, 101, 98, 114, 97]) = false)
  have hbw := below_then hb1 (below_then hb3 hb4)
  have HRl := Lib.hid ((HR.out).later hbw)
  have HLW : Hid (∀ x ∈ l, x.1.length ≤ 1048576) := fun x h => by have := (HS.out x h).1; omega
  have HADD : Hid (Calls Tryd.prog 26 #[.slice A l.length c, .agg #[str [90, 101, 98, 114, 97], .int .u8 1, str [90, 101, 98, 114, 97]]] W1 fun e' w' => e' = .returned (.tuple #[.slice none 0 0, .int .i64 2]) ∧ Below W1.heap.size W1 w') := add_bad l ([90, 101, 98, 114, 97], 1, [90, 101, 98, 114, 97]) A c W1 (by omega) HLW.out hle HRl.out (by simp) (by rw [HRT.out, Bool.and_false])
  have HRIG : Hid (∀ W : World, Calls Tryd.prog 27 #[.agg #[str [90, 101, 98, 114, 97], .int .u8 1, str [90, 101, 98, 114, 97]]] W fun e' w' => e' = .returned (.bool false) ∧ Below W.heap.size W w') := fun W => (right_any [90, 101, 98, 114, 97] 1 [90, 101, 98, 114, 97] W (by simp)).mono fun e' w' h => by rw [show rightL ([90, 101, 98, 114, 97], 1, [90, 101, 98, 114, 97]) = false from HRT.out] at h; exact h
  rw [← hW1]
  clear hW1
  refine (HADD.out).mono ?_; rintro e w4 ⟨rfl, hb5⟩
  have hbk4 := hbk.later hb5
  have k0 := hbk4.cell 0
  have k1 := hbk4.cell 1
  have k2 := hbk4.cell 2
  simp only [List.getElem?_toArray, List.getElem?_cons_zero, List.getElem?_cons_succ] at k0 k1 k2
  have HRW := Lib.hid ((HRl.out).later hb5)
  go_wp2_with fail
  refine wp_region_held_drew (S := fun W => Below w4.heap.size w4 W) (by kernel_rfl) (by exact (Below.refl _ _).drew) (fun hHeld => ?_)
  refine wpAnyH_take (i := 1) (oi := { dst := some 71, op := Op.move (Operand.tmp 0), type := 33, pos := "outright.go:207", after := #[], guard := none }) (v := ?v1_1) (by kernel_rfl) (by kernel_rfl) (by kernel_rfl) (by kernel_rfl) (fun _ _ _ h => h) (Or.inl ⟨by kernel_rfl, ?h1_1⟩) hHeld ?r1_1
  case h1_1 => (intro w hSw; (try dsimp only at hSw); go_simp; try with_reducible rfl)
  try simp only [Act.put, List.setIfInBounds_toArray, List.set_cons_zero, List.set_cons_succ]
  refine wpAnyH_take (i := 3) (oi := { dst := some 73, op := Op.load 39 (Operand.tmp 5), type := 39, pos := "outright.go:207", after := #[], guard := none }) (v := ?v1_3) (by kernel_rfl) (by kernel_rfl) (by kernel_rfl) (by kernel_rfl) (fun _ _ _ h => h) (Or.inl ⟨by kernel_rfl, ?h1_3⟩) hHeld ?r1_3
  case h1_3 => (intro w hSw; (try dsimp only at hSw); have m0 := (hSw.cell (p := ⟨w3.heap.size, 0, none⟩) hbk4.lt).trans k0; have m1 := (hSw.cell (p := ⟨w3.heap.size, 1, none⟩) hbk4.lt).trans k1; have m2 := (hSw.cell (p := ⟨w3.heap.size, 2, none⟩) hbk4.lt).trans k2; go_simp; try with_reducible rfl)
  try simp only [Act.put, List.setIfInBounds_toArray, List.set_cons_zero, List.set_cons_succ]
  refine wpAnyH_ready (rs := [0, 4]) (by kernel_rfl) (by simp) ?_
  refine AllReadyH.cons (i := 0) (o := { dst := some 70, op := Op.buildSlice 33 0 #[], type := 33, pos := "outright.go:207", after := #[], guard := none }) rfl (fun K hK => ?_) (AllReadyH.cons (i := 4) (o := { dst := some 74, op := Op.buildSlice 33 1 #[(0, Operand.tmp 73)], type := 33, pos := "outright.go:207", after := #[{ on := 3, ground := Ground.data }], guard := none }) rfl (fun K hK => ?_) AllReadyH.nil)
  · skip
    go_simp
    have HR0 := (own_empty w4 w4.heap.size 39 (Nat.le_refl _)).drew
    have hKeep := Below.alloc hHeld hHeld.size (.cells #[] 39)
    refine hK.out _ _ (by exact hKeep) (fun hHeld => ?_)
    clear hK K
    try simp only [Act.put, List.setIfInBounds_toArray, List.set_cons_zero, List.set_cons_succ]
    refine wpAnyH_ready (rs := [2, 4]) (by kernel_rfl) (by simp) ?_
    refine AllReadyH.cons (i := 2) (o := { dst := some 72, op := Op.call { callee := Callee.builtin Builtin.append, args := #[Operand.tmp 70, Operand.tmp 71], argTypes := #[33, 33] }, type := 33, pos := "outright.go:207", after := #[{ on := 0, ground := Ground.data }, { on := 1, ground := Ground.data }], guard := none }) rfl (fun K hK => ?_) (AllReadyH.cons (i := 4) (o := { dst := some 74, op := Op.buildSlice 33 1 #[(0, Operand.tmp 73)], type := 33, pos := "outright.go:207", after := #[{ on := 3, ground := Ground.data }], guard := none }) rfl (fun K hK => ?_) AllReadyH.nil)
    · skip
      refine step_append_any _ (by rfl) _ _ _ (by rfl) w4.heap.size 39 i0 _ 3 40 Tryd.underlying33 hi hz0 hz1 hz2 rfl (by decide) _ 0 [] (by rfl) HR0 _ A l.length c (flat l) (by rfl) (HRW.out.below hHeld) (flat_one l) (by unfold maxLen; omega) (by omega) hHeld.size ?_
      intro v5 w5 hown5 hg5 hat5
      have hKeep : Below w4.heap.size w4 w5 := hHeld.grown hg5 hHeld.size (own_ge HR0)
      refine hK.out _ _ (by exact hKeep) (fun hHeld => ?_)
      clear hK K
      try simp only [Act.put, List.setIfInBounds_toArray, List.set_cons_zero, List.set_cons_succ]
      refine wpAnyH_ready (rs := [4]) (by kernel_rfl) (by simp) ?_
      refine AllReadyH.cons (i := 4) (o := { dst := some 74, op := Op.buildSlice 33 1 #[(0, Operand.tmp 73)], type := 33, pos := "outright.go:207", after := #[{ on := 3, ground := Ground.data }], guard := none }) rfl (fun K hK => ?_) AllReadyH.nil
      go_simp
      have HB4 := Blk.new w5 39 #[str [90, 101, 98, 114, 97], .int .u8 1, str [90, 101, 98, 114, 97]]
      have HO := hown5.alloc (.cells #[str [90, 101, 98, 114, 97], .int .u8 1, str [90, 101, 98, 114, 97]] 39)
      have hKeep := Below.alloc hHeld hHeld.size (.cells #[str [90, 101, 98, 114, 97], .int .u8 1, str [90, 101, 98, 114, 97]] 39)
      refine hK.out _ _ (by exact hKeep) (fun hHeld => ?_)
      clear hK K
      try simp only [Act.put, List.setIfInBounds_toArray, List.set_cons_zero, List.set_cons_succ]
      refine wpAnyH_ready (rs := [5]) (by kernel_rfl) (by simp) ?_
      refine AllReadyH.cons (i := 5) (o := { dst := some 75, op := Op.call { callee := Callee.builtin Builtin.append, args := #[Operand.tmp 72, Operand.tmp 74], argTypes := #[33, 33] }, type := 33, pos := "outright.go:207", after := #[{ on := 2, ground := Ground.data }, { on := 4, ground := Ground.data }, { on := 2, ground := Ground.chain }], guard := none }) rfl (fun K hK => ?_) AllReadyH.nil
      refine step_append_any _ (by rfl) _ _ _ (by rfl) w4.heap.size 39 i0 _ 3 40 Tryd.underlying33 hi hz0 hz1 hz2 rfl (by decide) v5 (0 + l.length) ([] ++ flat l) (by rfl) HO _ (some ⟨w5.heap.size, 0, none⟩) 1 1 [str [90, 101, 98, 114, 97], .int .u8 1, str [90, 101, 98, 114, 97]] (by rfl) (blk_reads HB4 rfl) (by simp [Value.oneCell']) (by unfold maxLen; omega) (by omega) hHeld.size ?_
      intro v6 w6 hown6 hg6 hat6
      obtain ⟨A6, c6, rfl, hc6⟩ := own_form hown6
      have HRD6 := Reads.of_own hown6
      rw [Nat.zero_add, List.nil_append] at HRD6
      have hKeep : Below w4.heap.size w4 w6 := hHeld.grown hg6 hHeld.size (own_ge HO)
      refine hK.out _ _ (by exact hKeep) (fun hHeld => ?_)
      clear hK K
      try simp only [Act.put, List.setIfInBounds_toArray, List.set_cons_zero, List.set_cons_succ]
      refine wpAnyH_ready (rs := [6]) (by kernel_rfl) (by simp) ?_
      refine AllReadyH.cons (i := 6) (o := { dst := some 76, op := Op.call { callee := Callee.value (Operand.func 18), args := #[Operand.tmp 75, Operand.const (Value.string { data := #[122, 101, 98, 114, 97] })], argTypes := #[33, 9] }, type := 36, pos := "outright.go:207", after := #[{ on := 5, ground := Ground.data }, { on := 5, ground := Ground.chain }], guard := none }) rfl (fun K hK => ?_) AllReadyH.nil
      go_simp
      refine (look_bad l ([90, 101, 98, 114, 97], 1, [90, 101, 98, 114, 97]) [122, 101, 98, 114, 97] A6 (l.length + 1) c6 w6 rfl HRT.out HLW.out (by simp) (by omega) _ rfl HRD6).mono ?_
      rintro e6 w7 ⟨A7, c7, rfl, hb7⟩
      have hKeep : Below w4.heap.size w4 w7 := hHeld.trans (hb7.mono hHeld.size)
      go_wp2_with fail
      refine hK.out _ _ (by exact hKeep) (fun hHeld => ?_)
      clear hK K
      try simp only [Act.put, List.setIfInBounds_toArray, List.set_cons_zero, List.set_cons_succ]
      refine wpAnyH_take (i := 7) (oi := { dst := some 69, op := Op.move (Operand.tmp 76), type := 36, pos := "outright.go:207", after := #[{ on := 6, ground := Ground.data }], guard := none }) (v := ?v3_7) (by kernel_rfl) (by kernel_rfl) (by kernel_rfl) (by kernel_rfl) (fun _ _ _ h => h) (Or.inl ⟨by kernel_rfl, ?h3_7⟩) hHeld ?r3_7
      case h3_7 => (intro w hSw; (try dsimp only at hSw); go_simp; try with_reducible rfl)
      try simp only [Act.put, List.setIfInBounds_toArray, List.set_cons_zero, List.set_cons_succ]
      refine wpAnyH_take (i := 8) (oi := { dst := some 77, op := Op.extract (Operand.tmp 69) 0, type := 35, pos := "outright.go:207", after := #[{ on := 7, ground := Ground.data }], guard := none }) (v := ?v3_8) (by kernel_rfl) (by kernel_rfl) (by kernel_rfl) (by kernel_rfl) (fun _ _ _ h => h) (Or.inl ⟨by kernel_rfl, ?h3_8⟩) hHeld ?r3_8
      case h3_8 => (intro w hSw; (try dsimp only at hSw); go_simp; try with_reducible rfl)
      try simp only [Act.put, List.setIfInBounds_toArray, List.set_cons_zero, List.set_cons_succ]
      refine wpAnyH_take (i := 9) (oi := { dst := some 78, op := Op.extract (Operand.tmp 69) 1, type := 26, pos := "outright.go:207", after := #[{ on := 7, ground := Ground.data }, { on := 10, ground := Ground.gcOnly Departure.lateStores }], guard := none }) (v := ?v3_9) (by kernel_rfl) (by kernel_rfl) (by kernel_rfl) (by kernel_rfl) (fun _ _ _ h => h) (Or.inl ⟨by kernel_rfl, ?h3_9⟩) hHeld ?r3_9
      case h3_9 => (intro w hSw; (try dsimp only at hSw); go_simp; try with_reducible rfl)
      try simp only [Act.put, List.setIfInBounds_toArray, List.set_cons_zero, List.set_cons_succ]
      refine wpAnyH_take (i := 10) (oi := { dst := some 9, op := Op.assign (Operand.tmp 77), type := 35, pos := "outright.go:207", after := #[{ on := 8, ground := Ground.data }, { on := 6, ground := Ground.chain }, { on := 0, ground := Ground.phase }, { on := 1, ground := Ground.phase }, { on := 2, ground := Ground.phase }, { on := 3, ground := Ground.phase }, { on := 4, ground := Ground.phase }, { on := 5, ground := Ground.phase }, { on := 6, ground := Ground.phase }, { on := 7, ground := Ground.phase }, { on := 8, ground := Ground.phase }, { on := 9, ground := Ground.textOnly Departure.lateStores }], guard := none }) (v := ?v3_10) (by kernel_rfl) (by kernel_rfl) (by kernel_rfl) (by kernel_rfl) (fun _ _ _ h => h) (Or.inl ⟨by kernel_rfl, ?h3_10⟩) hHeld ?r3_10
      case h3_10 => (intro w hSw; (try dsimp only at hSw); go_simp; try with_reducible rfl)
      try simp only [Act.put, List.setIfInBounds_toArray, List.set_cons_zero, List.set_cons_succ]
      refine wpAnyH_take (i := 11) (oi := { dst := some 10, op := Op.assign (Operand.tmp 78), type := 26, pos := "outright.go:207", after := #[{ on := 9, ground := Ground.data }, { on := 10, ground := Ground.chain }, { on := 0, ground := Ground.phase }, { on := 1, ground := Ground.phase }, { on := 2, ground := Ground.phase }, { on := 3, ground := Ground.phase }, { on := 4, ground := Ground.phase }, { on := 5, ground := Ground.phase }, { on := 6, ground := Ground.phase }, { on := 7, ground := Ground.phase }, { on := 8, ground := Ground.phase }, { on := 9, ground := Ground.phase }, { on := 10, ground := Ground.phase }], guard := none }) (v := ?v3_11) (by kernel_rfl) (by kernel_rfl) (by kernel_rfl) (by kernel_rfl) (fun _ _ _ h => h) (Or.inl ⟨by kernel_rfl, ?h3_11⟩) hHeld ?r3_11
      case h3_11 => (intro w hSw; (try dsimp only at hSw); go_simp; try with_reducible rfl)
      try simp only [Act.put, List.setIfInBounds_toArray, List.set_cons_zero, List.set_cons_succ]
      refine wpAnyH_done (by kernel_rfl) ?_ _
      go_wp2_with fail
      go_at_call 14; refine ((HTX.out) _ (below_then hb5 hHeld)).mono ?_; rintro e w8 ⟨rfl, hb8⟩
      have hbk8 := (hbk4.later hHeld).later hb8
      have q0 := hbk8.cell 0
      have q1 := hbk8.cell 1
      have q2 := hbk8.cell 2
      simp only [List.getElem?_toArray, List.getElem?_cons_zero, List.getElem?_cons_succ] at q0 q1 q2
      go_wp2_with fail
      go_at_call 27; refine ((HRIG.out) _).mono ?_; rintro e w9 ⟨rfl, hb9⟩
      go_wp2_with fail
      go_ret
      exact ⟨rfl, below_then hbw (below_then hb5 (below_then hHeld (below_then hb8 hb9)))⟩
    · skip
      go_simp
      have HB4 : Blk ((w4.alloc (.cells #[] 39)).alloc (.cells #[str [90, 101, 98, 114, 97], .int .u8 1, str [90, 101, 98, 114, 97]] 39)).drew (w4.heap.size + 1) 39 #[str [90, 101, 98, 114, 97], .int .u8 1, str [90, 101, 98, 114, 97]] := (by have h := Blk.new (w4.alloc (.cells #[] 39)) 39 #[str [90, 101, 98, 114, 97], .int .u8 1, str [90, 101, 98, 114, 97]]; rw [World.size_alloc] at h; exact h.drew)
      have HR1 := (HR0.alloc (.cells #[str [90, 101, 98, 114, 97], .int .u8 1, str [90, 101, 98, 114, 97]] 39))
      have hKeep := Below.alloc hHeld hHeld.size (.cells #[str [90, 101, 98, 114, 97], .int .u8 1, str [90, 101, 98, 114, 97]] 39)
      refine hK.out _ _ (by exact hKeep) (fun hHeld => ?_)
      clear hK K
      try simp only [Act.put, List.setIfInBounds_toArray, List.set_cons_zero, List.set_cons_succ]
      refine wpAnyH_ready (rs := [2]) (by kernel_rfl) (by simp) ?_
      refine AllReadyH.cons (i := 2) (o := { dst := some 72, op := Op.call { callee := Callee.builtin Builtin.append, args := #[Operand.tmp 70, Operand.tmp 71], argTypes := #[33, 33] }, type := 33, pos := "outright.go:207", after := #[{ on := 0, ground := Ground.data }, { on := 1, ground := Ground.data }], guard := none }) rfl (fun K hK => ?_) AllReadyH.nil
      refine step_append_any _ (by rfl) _ _ _ (by rfl) w4.heap.size 39 i0 _ 3 40 Tryd.underlying33 hi hz0 hz1 hz2 rfl (by decide) _ 0 [] (by rfl) HR1 _ A l.length c (flat l) (by rfl) (HRW.out.below hHeld) (flat_one l) (by unfold maxLen; omega) (by omega) hHeld.size ?_
      intro v5 w5 hown5 hg5 hat5
      have hKeep : Below w4.heap.size w4 w5 := hHeld.grown hg5 hHeld.size (own_ge HR1)
      have HB5 := HB4.grown hg5 (by simp [Value.ownBlock])
      refine hK.out _ _ (by exact hKeep) (fun hHeld => ?_)
      clear hK K
      try simp only [Act.put, List.setIfInBounds_toArray, List.set_cons_zero, List.set_cons_succ]
      refine wpAnyH_ready (rs := [5]) (by kernel_rfl) (by simp) ?_
      refine AllReadyH.cons (i := 5) (o := { dst := some 75, op := Op.call { callee := Callee.builtin Builtin.append, args := #[Operand.tmp 72, Operand.tmp 74], argTypes := #[33, 33] }, type := 33, pos := "outright.go:207", after := #[{ on := 2, ground := Ground.data }, { on := 4, ground := Ground.data }, { on := 2, ground := Ground.chain }], guard := none }) rfl (fun K hK => ?_) AllReadyH.nil
      refine step_append_any _ (by rfl) _ _ _ (by rfl) w4.heap.size 39 i0 _ 3 40 Tryd.underlying33 hi hz0 hz1 hz2 rfl (by decide) v5 (0 + l.length) ([] ++ flat l) (by rfl) hown5 _ (some ⟨(w4.heap.size + 1), 0, none⟩) 1 1 [str [90, 101, 98, 114, 97], .int .u8 1, str [90, 101, 98, 114, 97]] (by rfl) (blk_reads HB5 rfl) (by simp [Value.oneCell']) (by unfold maxLen; omega) (by omega) hHeld.size ?_
      intro v6 w6 hown6 hg6 hat6
      obtain ⟨A6, c6, rfl, hc6⟩ := own_form hown6
      have HRD6 := Reads.of_own hown6
      rw [Nat.zero_add, List.nil_append] at HRD6
      have hKeep : Below w4.heap.size w4 w6 := hHeld.grown hg6 hHeld.size (own_ge hown5)
      refine hK.out _ _ (by exact hKeep) (fun hHeld => ?_)
      clear hK K
      try simp only [Act.put, List.setIfInBounds_toArray, List.set_cons_zero, List.set_cons_succ]
      refine wpAnyH_ready (rs := [6]) (by kernel_rfl) (by simp) ?_
      refine AllReadyH.cons (i := 6) (o := { dst := some 76, op := Op.call { callee := Callee.value (Operand.func 18), args := #[Operand.tmp 75, Operand.const (Value.string { data := #[122, 101, 98, 114, 97] })], argTypes := #[33, 9] }, type := 36, pos := "outright.go:207", after := #[{ on := 5, ground := Ground.data }, { on := 5, ground := Ground.chain }], guard := none }) rfl (fun K hK => ?_) AllReadyH.nil
      go_simp
      refine (look_bad l ([90, 101, 98, 114, 97], 1, [90, 101, 98, 114, 97]) [122, 101, 98, 114, 97] A6 (l.length + 1) c6 w6 rfl HRT.out HLW.out (by simp) (by omega) _ rfl HRD6).mono ?_
      rintro e6 w7 ⟨A7, c7, rfl, hb7⟩
      have hKeep : Below w4.heap.size w4 w7 := hHeld.trans (hb7.mono hHeld.size)
      go_wp2_with fail
      refine hK.out _ _ (by exact hKeep) (fun hHeld => ?_)
      clear hK K
      try simp only [Act.put, List.setIfInBounds_toArray, List.set_cons_zero, List.set_cons_succ]
      refine wpAnyH_take (i := 7) (oi := { dst := some 69, op := Op.move (Operand.tmp 76), type := 36, pos := "outright.go:207", after := #[{ on := 6, ground := Ground.data }], guard := none }) (v := ?v4_7) (by kernel_rfl) (by kernel_rfl) (by kernel_rfl) (by kernel_rfl) (fun _ _ _ h => h) (Or.inl ⟨by kernel_rfl, ?h4_7⟩) hHeld ?r4_7
      case h4_7 => (intro w hSw; (try dsimp only at hSw); go_simp; try with_reducible rfl)
      try simp only [Act.put, List.setIfInBounds_toArray, List.set_cons_zero, List.set_cons_succ]
      refine wpAnyH_take (i := 8) (oi := { dst := some 77, op := Op.extract (Operand.tmp 69) 0, type := 35, pos := "outright.go:207", after := #[{ on := 7, ground := Ground.data }], guard := none }) (v := ?v4_8) (by kernel_rfl) (by kernel_rfl) (by kernel_rfl) (by kernel_rfl) (fun _ _ _ h => h) (Or.inl ⟨by kernel_rfl, ?h4_8⟩) hHeld ?r4_8
      case h4_8 => (intro w hSw; (try dsimp only at hSw); go_simp; try with_reducible rfl)
      try simp only [Act.put, List.setIfInBounds_toArray, List.set_cons_zero, List.set_cons_succ]
      refine wpAnyH_take (i := 9) (oi := { dst := some 78, op := Op.extract (Operand.tmp 69) 1, type := 26, pos := "outright.go:207", after := #[{ on := 7, ground := Ground.data }, { on := 10, ground := Ground.gcOnly Departure.lateStores }], guard := none }) (v := ?v4_9) (by kernel_rfl) (by kernel_rfl) (by kernel_rfl) (by kernel_rfl) (fun _ _ _ h => h) (Or.inl ⟨by kernel_rfl, ?h4_9⟩) hHeld ?r4_9
      case h4_9 => (intro w hSw; (try dsimp only at hSw); go_simp; try with_reducible rfl)
      try simp only [Act.put, List.setIfInBounds_toArray, List.set_cons_zero, List.set_cons_succ]
      refine wpAnyH_take (i := 10) (oi := { dst := some 9, op := Op.assign (Operand.tmp 77), type := 35, pos := "outright.go:207", after := #[{ on := 8, ground := Ground.data }, { on := 6, ground := Ground.chain }, { on := 0, ground := Ground.phase }, { on := 1, ground := Ground.phase }, { on := 2, ground := Ground.phase }, { on := 3, ground := Ground.phase }, { on := 4, ground := Ground.phase }, { on := 5, ground := Ground.phase }, { on := 6, ground := Ground.phase }, { on := 7, ground := Ground.phase }, { on := 8, ground := Ground.phase }, { on := 9, ground := Ground.textOnly Departure.lateStores }], guard := none }) (v := ?v4_10) (by kernel_rfl) (by kernel_rfl) (by kernel_rfl) (by kernel_rfl) (fun _ _ _ h => h) (Or.inl ⟨by kernel_rfl, ?h4_10⟩) hHeld ?r4_10
      case h4_10 => (intro w hSw; (try dsimp only at hSw); go_simp; try with_reducible rfl)
      try simp only [Act.put, List.setIfInBounds_toArray, List.set_cons_zero, List.set_cons_succ]
      refine wpAnyH_take (i := 11) (oi := { dst := some 10, op := Op.assign (Operand.tmp 78), type := 26, pos := "outright.go:207", after := #[{ on := 9, ground := Ground.data }, { on := 10, ground := Ground.chain }, { on := 0, ground := Ground.phase }, { on := 1, ground := Ground.phase }, { on := 2, ground := Ground.phase }, { on := 3, ground := Ground.phase }, { on := 4, ground := Ground.phase }, { on := 5, ground := Ground.phase }, { on := 6, ground := Ground.phase }, { on := 7, ground := Ground.phase }, { on := 8, ground := Ground.phase }, { on := 9, ground := Ground.phase }, { on := 10, ground := Ground.phase }], guard := none }) (v := ?v4_11) (by kernel_rfl) (by kernel_rfl) (by kernel_rfl) (by kernel_rfl) (fun _ _ _ h => h) (Or.inl ⟨by kernel_rfl, ?h4_11⟩) hHeld ?r4_11
      case h4_11 => (intro w hSw; (try dsimp only at hSw); go_simp; try with_reducible rfl)
      try simp only [Act.put, List.setIfInBounds_toArray, List.set_cons_zero, List.set_cons_succ]
      refine wpAnyH_done (by kernel_rfl) ?_ _
      go_wp2_with fail
      go_at_call 14; refine ((HTX.out) _ (below_then hb5 hHeld)).mono ?_; rintro e w8 ⟨rfl, hb8⟩
      have hbk8 := (hbk4.later hHeld).later hb8
      have q0 := hbk8.cell 0
      have q1 := hbk8.cell 1
      have q2 := hbk8.cell 2
      simp only [List.getElem?_toArray, List.getElem?_cons_zero, List.getElem?_cons_succ] at q0 q1 q2
      go_wp2_with fail
      go_at_call 27; refine ((HRIG.out) _).mono ?_; rintro e w9 ⟨rfl, hb9⟩
      go_wp2_with fail
      go_ret
      exact ⟨rfl, below_then hbw (below_then hb5 (below_then hHeld (below_then hb8 hb9)))⟩
  · skip
    go_simp
    have HB4 := (Blk.new w4 39 #[str [90, 101, 98, 114, 97], .int .u8 1, str [90, 101, 98, 114, 97]]).drew
    have hKeep := Below.alloc hHeld hHeld.size (.cells #[str [90, 101, 98, 114, 97], .int .u8 1, str [90, 101, 98, 114, 97]] 39)
    refine hK.out _ _ (by exact hKeep) (fun hHeld => ?_)
    clear hK K
    try simp only [Act.put, List.setIfInBounds_toArray, List.set_cons_zero, List.set_cons_succ]
    refine wpAnyH_ready (rs := [0]) (by kernel_rfl) (by simp) ?_
    refine AllReadyH.cons (i := 0) (o := { dst := some 70, op := Op.buildSlice 33 0 #[], type := 33, pos := "outright.go:207", after := #[], guard := none }) rfl (fun K hK => ?_) AllReadyH.nil
    go_simp
    have HR1 : ((w4.alloc (.cells #[str [90, 101, 98, 114, 97], .int .u8 1, str [90, 101, 98, 114, 97]] 39)).alloc (.cells #[] 39)).drew.ownsRow w4.heap.size 39 3 (.slice (some ⟨w4.heap.size + 1, 0, none⟩) 0 0) 0 [] := (by have h := (own_empty (w4.alloc (.cells #[str [90, 101, 98, 114, 97], .int .u8 1, str [90, 101, 98, 114, 97]] 39)) w4.heap.size 39 (by simp)).drew; rw [World.size_alloc] at h; exact h)
    have HB5 := HB4.alloc (.cells #[] 39)
    have hKeep := Below.alloc hHeld hHeld.size (.cells #[] 39)
    refine hK.out _ _ (by exact hKeep) (fun hHeld => ?_)
    clear hK K
    try simp only [Act.put, List.setIfInBounds_toArray, List.set_cons_zero, List.set_cons_succ]
    refine wpAnyH_ready (rs := [2]) (by kernel_rfl) (by simp) ?_
    refine AllReadyH.cons (i := 2) (o := { dst := some 72, op := Op.call { callee := Callee.builtin Builtin.append, args := #[Operand.tmp 70, Operand.tmp 71], argTypes := #[33, 33] }, type := 33, pos := "outright.go:207", after := #[{ on := 0, ground := Ground.data }, { on := 1, ground := Ground.data }], guard := none }) rfl (fun K hK => ?_) AllReadyH.nil
    refine step_append_any _ (by rfl) _ _ _ (by rfl) w4.heap.size 39 i0 _ 3 40 Tryd.underlying33 hi hz0 hz1 hz2 rfl (by decide) _ 0 [] (by rfl) HR1 _ A l.length c (flat l) (by rfl) (HRW.out.below hHeld) (flat_one l) (by unfold maxLen; omega) (by omega) hHeld.size ?_
    intro v5 w5 hown5 hg5 hat5
    have hKeep : Below w4.heap.size w4 w5 := hHeld.grown hg5 hHeld.size (own_ge HR1)
    have HB6 := HB5.grown hg5 (by simp [Value.ownBlock])
    refine hK.out _ _ (by exact hKeep) (fun hHeld => ?_)
    clear hK K
    try simp only [Act.put, List.setIfInBounds_toArray, List.set_cons_zero, List.set_cons_succ]
    refine wpAnyH_ready (rs := [5]) (by kernel_rfl) (by simp) ?_
    refine AllReadyH.cons (i := 5) (o := { dst := some 75, op := Op.call { callee := Callee.builtin Builtin.append, args := #[Operand.tmp 72, Operand.tmp 74], argTypes := #[33, 33] }, type := 33, pos := "outright.go:207", after := #[{ on := 2, ground := Ground.data }, { on := 4, ground := Ground.data }, { on := 2, ground := Ground.chain }], guard := none }) rfl (fun K hK => ?_) AllReadyH.nil
    refine step_append_any _ (by rfl) _ _ _ (by rfl) w4.heap.size 39 i0 _ 3 40 Tryd.underlying33 hi hz0 hz1 hz2 rfl (by decide) v5 (0 + l.length) ([] ++ flat l) (by rfl) hown5 _ (some ⟨w4.heap.size, 0, none⟩) 1 1 [str [90, 101, 98, 114, 97], .int .u8 1, str [90, 101, 98, 114, 97]] (by rfl) (blk_reads HB6 rfl) (by simp [Value.oneCell']) (by unfold maxLen; omega) (by omega) hHeld.size ?_
    intro v6 w6 hown6 hg6 hat6
    obtain ⟨A6, c6, rfl, hc6⟩ := own_form hown6
    have HRD6 := Reads.of_own hown6
    rw [Nat.zero_add, List.nil_append] at HRD6
    have hKeep : Below w4.heap.size w4 w6 := hHeld.grown hg6 hHeld.size (own_ge hown5)
    refine hK.out _ _ (by exact hKeep) (fun hHeld => ?_)
    clear hK K
    try simp only [Act.put, List.setIfInBounds_toArray, List.set_cons_zero, List.set_cons_succ]
    refine wpAnyH_ready (rs := [6]) (by kernel_rfl) (by simp) ?_
    refine AllReadyH.cons (i := 6) (o := { dst := some 76, op := Op.call { callee := Callee.value (Operand.func 18), args := #[Operand.tmp 75, Operand.const (Value.string { data := #[122, 101, 98, 114, 97] })], argTypes := #[33, 9] }, type := 36, pos := "outright.go:207", after := #[{ on := 5, ground := Ground.data }, { on := 5, ground := Ground.chain }], guard := none }) rfl (fun K hK => ?_) AllReadyH.nil
    go_simp
    refine (look_bad l ([90, 101, 98, 114, 97], 1, [90, 101, 98, 114, 97]) [122, 101, 98, 114, 97] A6 (l.length + 1) c6 w6 rfl HRT.out HLW.out (by simp) (by omega) _ rfl HRD6).mono ?_
    rintro e6 w7 ⟨A7, c7, rfl, hb7⟩
    have hKeep : Below w4.heap.size w4 w7 := hHeld.trans (hb7.mono hHeld.size)
    go_wp2_with fail
    refine hK.out _ _ (by exact hKeep) (fun hHeld => ?_)
    clear hK K
    try simp only [Act.put, List.setIfInBounds_toArray, List.set_cons_zero, List.set_cons_succ]
    refine wpAnyH_take (i := 7) (oi := { dst := some 69, op := Op.move (Operand.tmp 76), type := 36, pos := "outright.go:207", after := #[{ on := 6, ground := Ground.data }], guard := none }) (v := ?v5_7) (by kernel_rfl) (by kernel_rfl) (by kernel_rfl) (by kernel_rfl) (fun _ _ _ h => h) (Or.inl ⟨by kernel_rfl, ?h5_7⟩) hHeld ?r5_7
    case h5_7 => (intro w hSw; (try dsimp only at hSw); go_simp; try with_reducible rfl)
    try simp only [Act.put, List.setIfInBounds_toArray, List.set_cons_zero, List.set_cons_succ]
    refine wpAnyH_take (i := 8) (oi := { dst := some 77, op := Op.extract (Operand.tmp 69) 0, type := 35, pos := "outright.go:207", after := #[{ on := 7, ground := Ground.data }], guard := none }) (v := ?v5_8) (by kernel_rfl) (by kernel_rfl) (by kernel_rfl) (by kernel_rfl) (fun _ _ _ h => h) (Or.inl ⟨by kernel_rfl, ?h5_8⟩) hHeld ?r5_8
    case h5_8 => (intro w hSw; (try dsimp only at hSw); go_simp; try with_reducible rfl)
    try simp only [Act.put, List.setIfInBounds_toArray, List.set_cons_zero, List.set_cons_succ]
    refine wpAnyH_take (i := 9) (oi := { dst := some 78, op := Op.extract (Operand.tmp 69) 1, type := 26, pos := "outright.go:207", after := #[{ on := 7, ground := Ground.data }, { on := 10, ground := Ground.gcOnly Departure.lateStores }], guard := none }) (v := ?v5_9) (by kernel_rfl) (by kernel_rfl) (by kernel_rfl) (by kernel_rfl) (fun _ _ _ h => h) (Or.inl ⟨by kernel_rfl, ?h5_9⟩) hHeld ?r5_9
    case h5_9 => (intro w hSw; (try dsimp only at hSw); go_simp; try with_reducible rfl)
    try simp only [Act.put, List.setIfInBounds_toArray, List.set_cons_zero, List.set_cons_succ]
    refine wpAnyH_take (i := 10) (oi := { dst := some 9, op := Op.assign (Operand.tmp 77), type := 35, pos := "outright.go:207", after := #[{ on := 8, ground := Ground.data }, { on := 6, ground := Ground.chain }, { on := 0, ground := Ground.phase }, { on := 1, ground := Ground.phase }, { on := 2, ground := Ground.phase }, { on := 3, ground := Ground.phase }, { on := 4, ground := Ground.phase }, { on := 5, ground := Ground.phase }, { on := 6, ground := Ground.phase }, { on := 7, ground := Ground.phase }, { on := 8, ground := Ground.phase }, { on := 9, ground := Ground.textOnly Departure.lateStores }], guard := none }) (v := ?v5_10) (by kernel_rfl) (by kernel_rfl) (by kernel_rfl) (by kernel_rfl) (fun _ _ _ h => h) (Or.inl ⟨by kernel_rfl, ?h5_10⟩) hHeld ?r5_10
    case h5_10 => (intro w hSw; (try dsimp only at hSw); go_simp; try with_reducible rfl)
    try simp only [Act.put, List.setIfInBounds_toArray, List.set_cons_zero, List.set_cons_succ]
    refine wpAnyH_take (i := 11) (oi := { dst := some 10, op := Op.assign (Operand.tmp 78), type := 26, pos := "outright.go:207", after := #[{ on := 9, ground := Ground.data }, { on := 10, ground := Ground.chain }, { on := 0, ground := Ground.phase }, { on := 1, ground := Ground.phase }, { on := 2, ground := Ground.phase }, { on := 3, ground := Ground.phase }, { on := 4, ground := Ground.phase }, { on := 5, ground := Ground.phase }, { on := 6, ground := Ground.phase }, { on := 7, ground := Ground.phase }, { on := 8, ground := Ground.phase }, { on := 9, ground := Ground.phase }, { on := 10, ground := Ground.phase }], guard := none }) (v := ?v5_11) (by kernel_rfl) (by kernel_rfl) (by kernel_rfl) (by kernel_rfl) (fun _ _ _ h => h) (Or.inl ⟨by kernel_rfl, ?h5_11⟩) hHeld ?r5_11
    case h5_11 => (intro w hSw; (try dsimp only at hSw); go_simp; try with_reducible rfl)
    try simp only [Act.put, List.setIfInBounds_toArray, List.set_cons_zero, List.set_cons_succ]
    refine wpAnyH_done (by kernel_rfl) ?_ _
    go_wp2_with fail
    go_at_call 14; refine ((HTX.out) _ (below_then hb5 hHeld)).mono ?_; rintro e w8 ⟨rfl, hb8⟩
    have hbk8 := (hbk4.later hHeld).later hb8
    have q0 := hbk8.cell 0
    have q1 := hbk8.cell 1
    have q2 := hbk8.cell 2
    simp only [List.getElem?_toArray, List.getElem?_cons_zero, List.getElem?_cons_succ] at q0 q1 q2
    go_wp2_with fail
    go_at_call 27; refine ((HRIG.out) _).mono ?_; rintro e w9 ⟨rfl, hb9⟩
    go_wp2_with fail
    go_ret
    exact ⟨rfl, below_then hbw (below_then hb5 (below_then hHeld (below_then hb8 hb9)))⟩
set_option maxRecDepth 100000 in
set_option maxHeartbeats 6400000 in
theorem wrong_1 (l : List Ent) (f : Int) (A : Option Addr) (c : Nat) (w : World) (h0 : 0 ≤ f) (h1 : f < 256) (hf : f % 8 = 1) (hv : validL l = true) (hsm : smallL l = true) (hr : Reads w w.heap.size 3 A l.length (flat l)) (hle : l.length ≤ c) :
    Calls Tryd.prog 10 #[.slice A l.length c, .int .u8 f] w fun e w' => e = .returned (.bool true) ∧ Below w.heap.size w w' := by
  obtain ⟨hl, hsz⟩ := small_each hsm
  obtain ⟨i0, hi, hz0, hz1, hz2⟩ := info_parts infoEnt
  have HSM := Lib.hid hsm
  have HV := Lib.hid hv
  have HS := Lib.hid hsz
  have HR := Lib.hid hr
  clear hsm hv hsz hr
  go_enter Tryd.func10, Tryd.ntmps10
  go_wp2_with fail
  go_at_call 12; refine (awake_any _).mono ?_; rintro e w1 ⟨rfl, hb1⟩
  go_wp2_with fail
  go_at_call 17; refine (small_any l A c _ ((HR.out).later hb1) (fun e h => by have := HS.out e h; unfold maxLen; omega)).mono ?_; rw [HSM.out]; rintro e w2 ⟨rfl, rfl⟩
  go_wp2_with fail
  go_at_call 19; refine (valid_any l A c _ (fun e h => by have := (HS.out e h).1; omega) hle ((HR.out).later hb1)).mono ?_; rw [HV.out]; rintro e w3 ⟨rfl, hb3⟩
  go_wp2_with fail
  obtain ⟨W1, hW1⟩ : ∃ W1 : World, W1 = (w3.alloc (.cells #[str [116, 104, 101], .int .u8 1, str [90, 101, 98, 114, 97]] 39)).alloc (.cells #[str [65, 110, 110], str [], str [46]] 9) := ⟨_, rfl⟩
  have hb4 : Below w3.heap.size w3 W1 := by rw [hW1]; exact ((Below.refl _ _).alloc (Nat.le_refl _) _).alloc (by simp) _
  have hbk : Blk W1 w3.heap.size 39 #[str [116, 104, 101], .int .u8 1, str [90, 101, 98, 114, 97]] := by rw [hW1]; exact (Blk.new w3 _ _).alloc _
  have hbt : Blk W1 (w3.heap.size + 1) 9 (([[65, 110, 110], [], [46]] : List (List UInt8)).map str).toArray := by rw [hW1]; have h := Blk.new (w3.alloc (.cells #[str [116, 104, 101], .int .u8 1, str [90, 101, 98, 114, 97]] 39)) 9 #[str [65, 110, 110], str [], str [46]]; rw [World.size_alloc] at h; exact h
  have HTX : Hid (∀ W, Below W1.heap.size W1 W → Calls Tryd.prog 14 #[.slice (some ⟨w3.heap.size + 1, 0, none⟩) 3 3] W fun e w' => e = .returned (.tuple #[str [], .int .i64 2]) ∧ Below W.heap.size W w') := fun W hb => text_no [[65, 110, 110], [], [46]] (some ⟨w3.heap.size + 1, 0, none⟩) 3 W (by kernel_rfl) (by simp) (by simp) (by simp) (blk_reads (hbt.later hb) (by simp))
  clear hbt
  have HRT : Hid (rightL ([116, 104, 101], 1, [90, 101, 98, 114, 97]) = false) := (by kernel_rfl : rightL ([116, 104, 101], 1, [90, 101, 98, 114, 97]) = false)
  have hbw := below_then hb1 (below_then hb3 hb4)
  have HRl := Lib.hid ((HR.out).later hbw)
  have HLW : Hid (∀ x ∈ l, x.1.length ≤ 1048576) := fun x h => by have := (HS.out x h).1; omega
  have HADD : Hid (Calls Tryd.prog 26 #[.slice A l.length c, .agg #[str [116, 104, 101], .int .u8 1, str [90, 101, 98, 114, 97]]] W1 fun e' w' => e' = .returned (.tuple #[.slice none 0 0, .int .i64 2]) ∧ Below W1.heap.size W1 w') := add_bad l ([116, 104, 101], 1, [90, 101, 98, 114, 97]) A c W1 (by omega) HLW.out hle HRl.out (by simp) (by rw [HRT.out, Bool.and_false])
  have HRIG : Hid (∀ W : World, Calls Tryd.prog 27 #[.agg #[str [116, 104, 101], .int .u8 1, str [90, 101, 98, 114, 97]]] W fun e' w' => e' = .returned (.bool false) ∧ Below W.heap.size W w') := fun W => (right_any [116, 104, 101] 1 [90, 101, 98, 114, 97] W (by simp)).mono fun e' w' h => by rw [show rightL ([116, 104, 101], 1, [90, 101, 98, 114, 97]) = false from HRT.out] at h; exact h
  rw [← hW1]
  clear hW1
  refine (HADD.out).mono ?_; rintro e w4 ⟨rfl, hb5⟩
  have hbk4 := hbk.later hb5
  have k0 := hbk4.cell 0
  have k1 := hbk4.cell 1
  have k2 := hbk4.cell 2
  simp only [List.getElem?_toArray, List.getElem?_cons_zero, List.getElem?_cons_succ] at k0 k1 k2
  have HRW := Lib.hid ((HRl.out).later hb5)
  go_wp2_with fail
  refine wp_region_held_drew (S := fun W => Below w4.heap.size w4 W) (by kernel_rfl) (by exact (Below.refl _ _).drew) (fun hHeld => ?_)
  refine wpAnyH_take (i := 1) (oi := { dst := some 71, op := Op.move (Operand.tmp 0), type := 33, pos := "outright.go:207", after := #[], guard := none }) (v := ?v6_1) (by kernel_rfl) (by kernel_rfl) (by kernel_rfl) (by kernel_rfl) (fun _ _ _ h => h) (Or.inl ⟨by kernel_rfl, ?h6_1⟩) hHeld ?r6_1
  case h6_1 => (intro w hSw; (try dsimp only at hSw); go_simp; try with_reducible rfl)
  try simp only [Act.put, List.setIfInBounds_toArray, List.set_cons_zero, List.set_cons_succ]
  refine wpAnyH_take (i := 3) (oi := { dst := some 73, op := Op.load 39 (Operand.tmp 5), type := 39, pos := "outright.go:207", after := #[], guard := none }) (v := ?v6_3) (by kernel_rfl) (by kernel_rfl) (by kernel_rfl) (by kernel_rfl) (fun _ _ _ h => h) (Or.inl ⟨by kernel_rfl, ?h6_3⟩) hHeld ?r6_3
  case h6_3 => (intro w hSw; (try dsimp only at hSw); have m0 := (hSw.cell (p := ⟨w3.heap.size, 0, none⟩) hbk4.lt).trans k0; have m1 := (hSw.cell (p := ⟨w3.heap.size, 1, none⟩) hbk4.lt).trans k1; have m2 := (hSw.cell (p := ⟨w3.heap.size, 2, none⟩) hbk4.lt).trans k2; go_simp; try with_reducible rfl)
  try simp only [Act.put, List.setIfInBounds_toArray, List.set_cons_zero, List.set_cons_succ]
  refine wpAnyH_ready (rs := [0, 4]) (by kernel_rfl) (by simp) ?_
  refine AllReadyH.cons (i := 0) (o := { dst := some 70, op := Op.buildSlice 33 0 #[], type := 33, pos := "outright.go:207", after := #[], guard := none }) rfl (fun K hK => ?_) (AllReadyH.cons (i := 4) (o := { dst := some 74, op := Op.buildSlice 33 1 #[(0, Operand.tmp 73)], type := 33, pos := "outright.go:207", after := #[{ on := 3, ground := Ground.data }], guard := none }) rfl (fun K hK => ?_) AllReadyH.nil)
  · skip
    go_simp
    have HR0 := (own_empty w4 w4.heap.size 39 (Nat.le_refl _)).drew
    have hKeep := Below.alloc hHeld hHeld.size (.cells #[] 39)
    refine hK.out _ _ (by exact hKeep) (fun hHeld => ?_)
    clear hK K
    try simp only [Act.put, List.setIfInBounds_toArray, List.set_cons_zero, List.set_cons_succ]
    refine wpAnyH_ready (rs := [2, 4]) (by kernel_rfl) (by simp) ?_
    refine AllReadyH.cons (i := 2) (o := { dst := some 72, op := Op.call { callee := Callee.builtin Builtin.append, args := #[Operand.tmp 70, Operand.tmp 71], argTypes := #[33, 33] }, type := 33, pos := "outright.go:207", after := #[{ on := 0, ground := Ground.data }, { on := 1, ground := Ground.data }], guard := none }) rfl (fun K hK => ?_) (AllReadyH.cons (i := 4) (o := { dst := some 74, op := Op.buildSlice 33 1 #[(0, Operand.tmp 73)], type := 33, pos := "outright.go:207", after := #[{ on := 3, ground := Ground.data }], guard := none }) rfl (fun K hK => ?_) AllReadyH.nil)
    · skip
      refine step_append_any _ (by rfl) _ _ _ (by rfl) w4.heap.size 39 i0 _ 3 40 Tryd.underlying33 hi hz0 hz1 hz2 rfl (by decide) _ 0 [] (by rfl) HR0 _ A l.length c (flat l) (by rfl) (HRW.out.below hHeld) (flat_one l) (by unfold maxLen; omega) (by omega) hHeld.size ?_
      intro v5 w5 hown5 hg5 hat5
      have hKeep : Below w4.heap.size w4 w5 := hHeld.grown hg5 hHeld.size (own_ge HR0)
      refine hK.out _ _ (by exact hKeep) (fun hHeld => ?_)
      clear hK K
      try simp only [Act.put, List.setIfInBounds_toArray, List.set_cons_zero, List.set_cons_succ]
      refine wpAnyH_ready (rs := [4]) (by kernel_rfl) (by simp) ?_
      refine AllReadyH.cons (i := 4) (o := { dst := some 74, op := Op.buildSlice 33 1 #[(0, Operand.tmp 73)], type := 33, pos := "outright.go:207", after := #[{ on := 3, ground := Ground.data }], guard := none }) rfl (fun K hK => ?_) AllReadyH.nil
      go_simp
      have HB4 := Blk.new w5 39 #[str [116, 104, 101], .int .u8 1, str [90, 101, 98, 114, 97]]
      have HO := hown5.alloc (.cells #[str [116, 104, 101], .int .u8 1, str [90, 101, 98, 114, 97]] 39)
      have hKeep := Below.alloc hHeld hHeld.size (.cells #[str [116, 104, 101], .int .u8 1, str [90, 101, 98, 114, 97]] 39)
      refine hK.out _ _ (by exact hKeep) (fun hHeld => ?_)
      clear hK K
      try simp only [Act.put, List.setIfInBounds_toArray, List.set_cons_zero, List.set_cons_succ]
      refine wpAnyH_ready (rs := [5]) (by kernel_rfl) (by simp) ?_
      refine AllReadyH.cons (i := 5) (o := { dst := some 75, op := Op.call { callee := Callee.builtin Builtin.append, args := #[Operand.tmp 72, Operand.tmp 74], argTypes := #[33, 33] }, type := 33, pos := "outright.go:207", after := #[{ on := 2, ground := Ground.data }, { on := 4, ground := Ground.data }, { on := 2, ground := Ground.chain }], guard := none }) rfl (fun K hK => ?_) AllReadyH.nil
      refine step_append_any _ (by rfl) _ _ _ (by rfl) w4.heap.size 39 i0 _ 3 40 Tryd.underlying33 hi hz0 hz1 hz2 rfl (by decide) v5 (0 + l.length) ([] ++ flat l) (by rfl) HO _ (some ⟨w5.heap.size, 0, none⟩) 1 1 [str [116, 104, 101], .int .u8 1, str [90, 101, 98, 114, 97]] (by rfl) (blk_reads HB4 rfl) (by simp [Value.oneCell']) (by unfold maxLen; omega) (by omega) hHeld.size ?_
      intro v6 w6 hown6 hg6 hat6
      obtain ⟨A6, c6, rfl, hc6⟩ := own_form hown6
      have HRD6 := Reads.of_own hown6
      rw [Nat.zero_add, List.nil_append] at HRD6
      have hKeep : Below w4.heap.size w4 w6 := hHeld.grown hg6 hHeld.size (own_ge HO)
      refine hK.out _ _ (by exact hKeep) (fun hHeld => ?_)
      clear hK K
      try simp only [Act.put, List.setIfInBounds_toArray, List.set_cons_zero, List.set_cons_succ]
      refine wpAnyH_ready (rs := [6]) (by kernel_rfl) (by simp) ?_
      refine AllReadyH.cons (i := 6) (o := { dst := some 76, op := Op.call { callee := Callee.value (Operand.func 18), args := #[Operand.tmp 75, Operand.const (Value.string { data := #[122, 101, 98, 114, 97] })], argTypes := #[33, 9] }, type := 36, pos := "outright.go:207", after := #[{ on := 5, ground := Ground.data }, { on := 5, ground := Ground.chain }], guard := none }) rfl (fun K hK => ?_) AllReadyH.nil
      go_simp
      refine (look_bad l ([116, 104, 101], 1, [90, 101, 98, 114, 97]) [122, 101, 98, 114, 97] A6 (l.length + 1) c6 w6 rfl HRT.out HLW.out (by simp) (by omega) _ rfl HRD6).mono ?_
      rintro e6 w7 ⟨A7, c7, rfl, hb7⟩
      have hKeep : Below w4.heap.size w4 w7 := hHeld.trans (hb7.mono hHeld.size)
      go_wp2_with fail
      refine hK.out _ _ (by exact hKeep) (fun hHeld => ?_)
      clear hK K
      try simp only [Act.put, List.setIfInBounds_toArray, List.set_cons_zero, List.set_cons_succ]
      refine wpAnyH_take (i := 7) (oi := { dst := some 69, op := Op.move (Operand.tmp 76), type := 36, pos := "outright.go:207", after := #[{ on := 6, ground := Ground.data }], guard := none }) (v := ?v8_7) (by kernel_rfl) (by kernel_rfl) (by kernel_rfl) (by kernel_rfl) (fun _ _ _ h => h) (Or.inl ⟨by kernel_rfl, ?h8_7⟩) hHeld ?r8_7
      case h8_7 => (intro w hSw; (try dsimp only at hSw); go_simp; try with_reducible rfl)
      try simp only [Act.put, List.setIfInBounds_toArray, List.set_cons_zero, List.set_cons_succ]
      refine wpAnyH_take (i := 8) (oi := { dst := some 77, op := Op.extract (Operand.tmp 69) 0, type := 35, pos := "outright.go:207", after := #[{ on := 7, ground := Ground.data }], guard := none }) (v := ?v8_8) (by kernel_rfl) (by kernel_rfl) (by kernel_rfl) (by kernel_rfl) (fun _ _ _ h => h) (Or.inl ⟨by kernel_rfl, ?h8_8⟩) hHeld ?r8_8
      case h8_8 => (intro w hSw; (try dsimp only at hSw); go_simp; try with_reducible rfl)
      try simp only [Act.put, List.setIfInBounds_toArray, List.set_cons_zero, List.set_cons_succ]
      refine wpAnyH_take (i := 9) (oi := { dst := some 78, op := Op.extract (Operand.tmp 69) 1, type := 26, pos := "outright.go:207", after := #[{ on := 7, ground := Ground.data }, { on := 10, ground := Ground.gcOnly Departure.lateStores }], guard := none }) (v := ?v8_9) (by kernel_rfl) (by kernel_rfl) (by kernel_rfl) (by kernel_rfl) (fun _ _ _ h => h) (Or.inl ⟨by kernel_rfl, ?h8_9⟩) hHeld ?r8_9
      case h8_9 => (intro w hSw; (try dsimp only at hSw); go_simp; try with_reducible rfl)
      try simp only [Act.put, List.setIfInBounds_toArray, List.set_cons_zero, List.set_cons_succ]
      refine wpAnyH_take (i := 10) (oi := { dst := some 9, op := Op.assign (Operand.tmp 77), type := 35, pos := "outright.go:207", after := #[{ on := 8, ground := Ground.data }, { on := 6, ground := Ground.chain }, { on := 0, ground := Ground.phase }, { on := 1, ground := Ground.phase }, { on := 2, ground := Ground.phase }, { on := 3, ground := Ground.phase }, { on := 4, ground := Ground.phase }, { on := 5, ground := Ground.phase }, { on := 6, ground := Ground.phase }, { on := 7, ground := Ground.phase }, { on := 8, ground := Ground.phase }, { on := 9, ground := Ground.textOnly Departure.lateStores }], guard := none }) (v := ?v8_10) (by kernel_rfl) (by kernel_rfl) (by kernel_rfl) (by kernel_rfl) (fun _ _ _ h => h) (Or.inl ⟨by kernel_rfl, ?h8_10⟩) hHeld ?r8_10
      case h8_10 => (intro w hSw; (try dsimp only at hSw); go_simp; try with_reducible rfl)
      try simp only [Act.put, List.setIfInBounds_toArray, List.set_cons_zero, List.set_cons_succ]
      refine wpAnyH_take (i := 11) (oi := { dst := some 10, op := Op.assign (Operand.tmp 78), type := 26, pos := "outright.go:207", after := #[{ on := 9, ground := Ground.data }, { on := 10, ground := Ground.chain }, { on := 0, ground := Ground.phase }, { on := 1, ground := Ground.phase }, { on := 2, ground := Ground.phase }, { on := 3, ground := Ground.phase }, { on := 4, ground := Ground.phase }, { on := 5, ground := Ground.phase }, { on := 6, ground := Ground.phase }, { on := 7, ground := Ground.phase }, { on := 8, ground := Ground.phase }, { on := 9, ground := Ground.phase }, { on := 10, ground := Ground.phase }], guard := none }) (v := ?v8_11) (by kernel_rfl) (by kernel_rfl) (by kernel_rfl) (by kernel_rfl) (fun _ _ _ h => h) (Or.inl ⟨by kernel_rfl, ?h8_11⟩) hHeld ?r8_11
      case h8_11 => (intro w hSw; (try dsimp only at hSw); go_simp; try with_reducible rfl)
      try simp only [Act.put, List.setIfInBounds_toArray, List.set_cons_zero, List.set_cons_succ]
      refine wpAnyH_done (by kernel_rfl) ?_ _
      go_wp2_with fail
      go_at_call 14; refine ((HTX.out) _ (below_then hb5 hHeld)).mono ?_; rintro e w8 ⟨rfl, hb8⟩
      have hbk8 := (hbk4.later hHeld).later hb8
      have q0 := hbk8.cell 0
      have q1 := hbk8.cell 1
      have q2 := hbk8.cell 2
      simp only [List.getElem?_toArray, List.getElem?_cons_zero, List.getElem?_cons_succ] at q0 q1 q2
      go_wp2_with fail
      go_at_call 27; refine ((HRIG.out) _).mono ?_; rintro e w9 ⟨rfl, hb9⟩
      go_wp2_with fail
      go_ret
      exact ⟨rfl, below_then hbw (below_then hb5 (below_then hHeld (below_then hb8 hb9)))⟩
    · skip
      go_simp
      have HB4 : Blk ((w4.alloc (.cells #[] 39)).alloc (.cells #[str [116, 104, 101], .int .u8 1, str [90, 101, 98, 114, 97]] 39)).drew (w4.heap.size + 1) 39 #[str [116, 104, 101], .int .u8 1, str [90, 101, 98, 114, 97]] := (by have h := Blk.new (w4.alloc (.cells #[] 39)) 39 #[str [116, 104, 101], .int .u8 1, str [90, 101, 98, 114, 97]]; rw [World.size_alloc] at h; exact h.drew)
      have HR1 := (HR0.alloc (.cells #[str [116, 104, 101], .int .u8 1, str [90, 101, 98, 114, 97]] 39))
      have hKeep := Below.alloc hHeld hHeld.size (.cells #[str [116, 104, 101], .int .u8 1, str [90, 101, 98, 114, 97]] 39)
      refine hK.out _ _ (by exact hKeep) (fun hHeld => ?_)
      clear hK K
      try simp only [Act.put, List.setIfInBounds_toArray, List.set_cons_zero, List.set_cons_succ]
      refine wpAnyH_ready (rs := [2]) (by kernel_rfl) (by simp) ?_
      refine AllReadyH.cons (i := 2) (o := { dst := some 72, op := Op.call { callee := Callee.builtin Builtin.append, args := #[Operand.tmp 70, Operand.tmp 71], argTypes := #[33, 33] }, type := 33, pos := "outright.go:207", after := #[{ on := 0, ground := Ground.data }, { on := 1, ground := Ground.data }], guard := none }) rfl (fun K hK => ?_) AllReadyH.nil
      refine step_append_any _ (by rfl) _ _ _ (by rfl) w4.heap.size 39 i0 _ 3 40 Tryd.underlying33 hi hz0 hz1 hz2 rfl (by decide) _ 0 [] (by rfl) HR1 _ A l.length c (flat l) (by rfl) (HRW.out.below hHeld) (flat_one l) (by unfold maxLen; omega) (by omega) hHeld.size ?_
      intro v5 w5 hown5 hg5 hat5
      have hKeep : Below w4.heap.size w4 w5 := hHeld.grown hg5 hHeld.size (own_ge HR1)
      have HB5 := HB4.grown hg5 (by simp [Value.ownBlock])
      refine hK.out _ _ (by exact hKeep) (fun hHeld => ?_)
      clear hK K
      try simp only [Act.put, List.setIfInBounds_toArray, List.set_cons_zero, List.set_cons_succ]
      refine wpAnyH_ready (rs := [5]) (by kernel_rfl) (by simp) ?_
      refine AllReadyH.cons (i := 5) (o := { dst := some 75, op := Op.call { callee := Callee.builtin Builtin.append, args := #[Operand.tmp 72, Operand.tmp 74], argTypes := #[33, 33] }, type := 33, pos := "outright.go:207", after := #[{ on := 2, ground := Ground.data }, { on := 4, ground := Ground.data }, { on := 2, ground := Ground.chain }], guard := none }) rfl (fun K hK => ?_) AllReadyH.nil
      refine step_append_any _ (by rfl) _ _ _ (by rfl) w4.heap.size 39 i0 _ 3 40 Tryd.underlying33 hi hz0 hz1 hz2 rfl (by decide) v5 (0 + l.length) ([] ++ flat l) (by rfl) hown5 _ (some ⟨(w4.heap.size + 1), 0, none⟩) 1 1 [str [116, 104, 101], .int .u8 1, str [90, 101, 98, 114, 97]] (by rfl) (blk_reads HB5 rfl) (by simp [Value.oneCell']) (by unfold maxLen; omega) (by omega) hHeld.size ?_
      intro v6 w6 hown6 hg6 hat6
      obtain ⟨A6, c6, rfl, hc6⟩ := own_form hown6
      have HRD6 := Reads.of_own hown6
      rw [Nat.zero_add, List.nil_append] at HRD6
      have hKeep : Below w4.heap.size w4 w6 := hHeld.grown hg6 hHeld.size (own_ge hown5)
      refine hK.out _ _ (by exact hKeep) (fun hHeld => ?_)
      clear hK K
      try simp only [Act.put, List.setIfInBounds_toArray, List.set_cons_zero, List.set_cons_succ]
      refine wpAnyH_ready (rs := [6]) (by kernel_rfl) (by simp) ?_
      refine AllReadyH.cons (i := 6) (o := { dst := some 76, op := Op.call { callee := Callee.value (Operand.func 18), args := #[Operand.tmp 75, Operand.const (Value.string { data := #[122, 101, 98, 114, 97] })], argTypes := #[33, 9] }, type := 36, pos := "outright.go:207", after := #[{ on := 5, ground := Ground.data }, { on := 5, ground := Ground.chain }], guard := none }) rfl (fun K hK => ?_) AllReadyH.nil
      go_simp
      refine (look_bad l ([116, 104, 101], 1, [90, 101, 98, 114, 97]) [122, 101, 98, 114, 97] A6 (l.length + 1) c6 w6 rfl HRT.out HLW.out (by simp) (by omega) _ rfl HRD6).mono ?_
      rintro e6 w7 ⟨A7, c7, rfl, hb7⟩
      have hKeep : Below w4.heap.size w4 w7 := hHeld.trans (hb7.mono hHeld.size)
      go_wp2_with fail
      refine hK.out _ _ (by exact hKeep) (fun hHeld => ?_)
      clear hK K
      try simp only [Act.put, List.setIfInBounds_toArray, List.set_cons_zero, List.set_cons_succ]
      refine wpAnyH_take (i := 7) (oi := { dst := some 69, op := Op.move (Operand.tmp 76), type := 36, pos := "outright.go:207", after := #[{ on := 6, ground := Ground.data }], guard := none }) (v := ?v9_7) (by kernel_rfl) (by kernel_rfl) (by kernel_rfl) (by kernel_rfl) (fun _ _ _ h => h) (Or.inl ⟨by kernel_rfl, ?h9_7⟩) hHeld ?r9_7
      case h9_7 => (intro w hSw; (try dsimp only at hSw); go_simp; try with_reducible rfl)
      try simp only [Act.put, List.setIfInBounds_toArray, List.set_cons_zero, List.set_cons_succ]
      refine wpAnyH_take (i := 8) (oi := { dst := some 77, op := Op.extract (Operand.tmp 69) 0, type := 35, pos := "outright.go:207", after := #[{ on := 7, ground := Ground.data }], guard := none }) (v := ?v9_8) (by kernel_rfl) (by kernel_rfl) (by kernel_rfl) (by kernel_rfl) (fun _ _ _ h => h) (Or.inl ⟨by kernel_rfl, ?h9_8⟩) hHeld ?r9_8
      case h9_8 => (intro w hSw; (try dsimp only at hSw); go_simp; try with_reducible rfl)
      try simp only [Act.put, List.setIfInBounds_toArray, List.set_cons_zero, List.set_cons_succ]
      refine wpAnyH_take (i := 9) (oi := { dst := some 78, op := Op.extract (Operand.tmp 69) 1, type := 26, pos := "outright.go:207", after := #[{ on := 7, ground := Ground.data }, { on := 10, ground := Ground.gcOnly Departure.lateStores }], guard := none }) (v := ?v9_9) (by kernel_rfl) (by kernel_rfl) (by kernel_rfl) (by kernel_rfl) (fun _ _ _ h => h) (Or.inl ⟨by kernel_rfl, ?h9_9⟩) hHeld ?r9_9
      case h9_9 => (intro w hSw; (try dsimp only at hSw); go_simp; try with_reducible rfl)
      try simp only [Act.put, List.setIfInBounds_toArray, List.set_cons_zero, List.set_cons_succ]
      refine wpAnyH_take (i := 10) (oi := { dst := some 9, op := Op.assign (Operand.tmp 77), type := 35, pos := "outright.go:207", after := #[{ on := 8, ground := Ground.data }, { on := 6, ground := Ground.chain }, { on := 0, ground := Ground.phase }, { on := 1, ground := Ground.phase }, { on := 2, ground := Ground.phase }, { on := 3, ground := Ground.phase }, { on := 4, ground := Ground.phase }, { on := 5, ground := Ground.phase }, { on := 6, ground := Ground.phase }, { on := 7, ground := Ground.phase }, { on := 8, ground := Ground.phase }, { on := 9, ground := Ground.textOnly Departure.lateStores }], guard := none }) (v := ?v9_10) (by kernel_rfl) (by kernel_rfl) (by kernel_rfl) (by kernel_rfl) (fun _ _ _ h => h) (Or.inl ⟨by kernel_rfl, ?h9_10⟩) hHeld ?r9_10
      case h9_10 => (intro w hSw; (try dsimp only at hSw); go_simp; try with_reducible rfl)
      try simp only [Act.put, List.setIfInBounds_toArray, List.set_cons_zero, List.set_cons_succ]
      refine wpAnyH_take (i := 11) (oi := { dst := some 10, op := Op.assign (Operand.tmp 78), type := 26, pos := "outright.go:207", after := #[{ on := 9, ground := Ground.data }, { on := 10, ground := Ground.chain }, { on := 0, ground := Ground.phase }, { on := 1, ground := Ground.phase }, { on := 2, ground := Ground.phase }, { on := 3, ground := Ground.phase }, { on := 4, ground := Ground.phase }, { on := 5, ground := Ground.phase }, { on := 6, ground := Ground.phase }, { on := 7, ground := Ground.phase }, { on := 8, ground := Ground.phase }, { on := 9, ground := Ground.phase }, { on := 10, ground := Ground.phase }], guard := none }) (v := ?v9_11) (by kernel_rfl) (by kernel_rfl) (by kernel_rfl) (by kernel_rfl) (fun _ _ _ h => h) (Or.inl ⟨by kernel_rfl, ?h9_11⟩) hHeld ?r9_11
      case h9_11 => (intro w hSw; (try dsimp only at hSw); go_simp; try with_reducible rfl)
      try simp only [Act.put, List.setIfInBounds_toArray, List.set_cons_zero, List.set_cons_succ]
      refine wpAnyH_done (by kernel_rfl) ?_ _
      go_wp2_with fail
      go_at_call 14; refine ((HTX.out) _ (below_then hb5 hHeld)).mono ?_; rintro e w8 ⟨rfl, hb8⟩
      have hbk8 := (hbk4.later hHeld).later hb8
      have q0 := hbk8.cell 0
      have q1 := hbk8.cell 1
      have q2 := hbk8.cell 2
      simp only [List.getElem?_toArray, List.getElem?_cons_zero, List.getElem?_cons_succ] at q0 q1 q2
      go_wp2_with fail
      go_at_call 27; refine ((HRIG.out) _).mono ?_; rintro e w9 ⟨rfl, hb9⟩
      go_wp2_with fail
      go_ret
      exact ⟨rfl, below_then hbw (below_then hb5 (below_then hHeld (below_then hb8 hb9)))⟩
  · skip
    go_simp
    have HB4 := (Blk.new w4 39 #[str [116, 104, 101], .int .u8 1, str [90, 101, 98, 114, 97]]).drew
    have hKeep := Below.alloc hHeld hHeld.size (.cells #[str [116, 104, 101], .int .u8 1, str [90, 101, 98, 114, 97]] 39)
    refine hK.out _ _ (by exact hKeep) (fun hHeld => ?_)
    clear hK K
    try simp only [Act.put, List.setIfInBounds_toArray, List.set_cons_zero, List.set_cons_succ]
    refine wpAnyH_ready (rs := [0]) (by kernel_rfl) (by simp) ?_
    refine AllReadyH.cons (i := 0) (o := { dst := some 70, op := Op.buildSlice 33 0 #[], type := 33, pos := "outright.go:207", after := #[], guard := none }) rfl (fun K hK => ?_) AllReadyH.nil
    go_simp
    have HR1 : ((w4.alloc (.cells #[str [116, 104, 101], .int .u8 1, str [90, 101, 98, 114, 97]] 39)).alloc (.cells #[] 39)).drew.ownsRow w4.heap.size 39 3 (.slice (some ⟨w4.heap.size + 1, 0, none⟩) 0 0) 0 [] := (by have h := (own_empty (w4.alloc (.cells #[str [116, 104, 101], .int .u8 1, str [90, 101, 98, 114, 97]] 39)) w4.heap.size 39 (by simp)).drew; rw [World.size_alloc] at h; exact h)
    have HB5 := HB4.alloc (.cells #[] 39)
    have hKeep := Below.alloc hHeld hHeld.size (.cells #[] 39)
    refine hK.out _ _ (by exact hKeep) (fun hHeld => ?_)
    clear hK K
    try simp only [Act.put, List.setIfInBounds_toArray, List.set_cons_zero, List.set_cons_succ]
    refine wpAnyH_ready (rs := [2]) (by kernel_rfl) (by simp) ?_
    refine AllReadyH.cons (i := 2) (o := { dst := some 72, op := Op.call { callee := Callee.builtin Builtin.append, args := #[Operand.tmp 70, Operand.tmp 71], argTypes := #[33, 33] }, type := 33, pos := "outright.go:207", after := #[{ on := 0, ground := Ground.data }, { on := 1, ground := Ground.data }], guard := none }) rfl (fun K hK => ?_) AllReadyH.nil
    refine step_append_any _ (by rfl) _ _ _ (by rfl) w4.heap.size 39 i0 _ 3 40 Tryd.underlying33 hi hz0 hz1 hz2 rfl (by decide) _ 0 [] (by rfl) HR1 _ A l.length c (flat l) (by rfl) (HRW.out.below hHeld) (flat_one l) (by unfold maxLen; omega) (by omega) hHeld.size ?_
    intro v5 w5 hown5 hg5 hat5
    have hKeep : Below w4.heap.size w4 w5 := hHeld.grown hg5 hHeld.size (own_ge HR1)
    have HB6 := HB5.grown hg5 (by simp [Value.ownBlock])
    refine hK.out _ _ (by exact hKeep) (fun hHeld => ?_)
    clear hK K
    try simp only [Act.put, List.setIfInBounds_toArray, List.set_cons_zero, List.set_cons_succ]
    refine wpAnyH_ready (rs := [5]) (by kernel_rfl) (by simp) ?_
    refine AllReadyH.cons (i := 5) (o := { dst := some 75, op := Op.call { callee := Callee.builtin Builtin.append, args := #[Operand.tmp 72, Operand.tmp 74], argTypes := #[33, 33] }, type := 33, pos := "outright.go:207", after := #[{ on := 2, ground := Ground.data }, { on := 4, ground := Ground.data }, { on := 2, ground := Ground.chain }], guard := none }) rfl (fun K hK => ?_) AllReadyH.nil
    refine step_append_any _ (by rfl) _ _ _ (by rfl) w4.heap.size 39 i0 _ 3 40 Tryd.underlying33 hi hz0 hz1 hz2 rfl (by decide) v5 (0 + l.length) ([] ++ flat l) (by rfl) hown5 _ (some ⟨w4.heap.size, 0, none⟩) 1 1 [str [116, 104, 101], .int .u8 1, str [90, 101, 98, 114, 97]] (by rfl) (blk_reads HB6 rfl) (by simp [Value.oneCell']) (by unfold maxLen; omega) (by omega) hHeld.size ?_
    intro v6 w6 hown6 hg6 hat6
    obtain ⟨A6, c6, rfl, hc6⟩ := own_form hown6
    have HRD6 := Reads.of_own hown6
    rw [Nat.zero_add, List.nil_append] at HRD6
    have hKeep : Below w4.heap.size w4 w6 := hHeld.grown hg6 hHeld.size (own_ge hown5)
    refine hK.out _ _ (by exact hKeep) (fun hHeld => ?_)
    clear hK K
    try simp only [Act.put, List.setIfInBounds_toArray, List.set_cons_zero, List.set_cons_succ]
    refine wpAnyH_ready (rs := [6]) (by kernel_rfl) (by simp) ?_
    refine AllReadyH.cons (i := 6) (o := { dst := some 76, op := Op.call { callee := Callee.value (Operand.func 18), args := #[Operand.tmp 75, Operand.const (Value.string { data := #[122, 101, 98, 114, 97] })], argTypes := #[33, 9] }, type := 36, pos := "outright.go:207", after := #[{ on := 5, ground := Ground.data }, { on := 5, ground := Ground.chain }], guard := none }) rfl (fun K hK => ?_) AllReadyH.nil
    go_simp
    refine (look_bad l ([116, 104, 101], 1, [90, 101, 98, 114, 97]) [122, 101, 98, 114, 97] A6 (l.length + 1) c6 w6 rfl HRT.out HLW.out (by simp) (by omega) _ rfl HRD6).mono ?_
    rintro e6 w7 ⟨A7, c7, rfl, hb7⟩
    have hKeep : Below w4.heap.size w4 w7 := hHeld.trans (hb7.mono hHeld.size)
    go_wp2_with fail
    refine hK.out _ _ (by exact hKeep) (fun hHeld => ?_)
    clear hK K
    try simp only [Act.put, List.setIfInBounds_toArray, List.set_cons_zero, List.set_cons_succ]
    refine wpAnyH_take (i := 7) (oi := { dst := some 69, op := Op.move (Operand.tmp 76), type := 36, pos := "outright.go:207", after := #[{ on := 6, ground := Ground.data }], guard := none }) (v := ?v10_7) (by kernel_rfl) (by kernel_rfl) (by kernel_rfl) (by kernel_rfl) (fun _ _ _ h => h) (Or.inl ⟨by kernel_rfl, ?h10_7⟩) hHeld ?r10_7
    case h10_7 => (intro w hSw; (try dsimp only at hSw); go_simp; try with_reducible rfl)
    try simp only [Act.put, List.setIfInBounds_toArray, List.set_cons_zero, List.set_cons_succ]
    refine wpAnyH_take (i := 8) (oi := { dst := some 77, op := Op.extract (Operand.tmp 69) 0, type := 35, pos := "outright.go:207", after := #[{ on := 7, ground := Ground.data }], guard := none }) (v := ?v10_8) (by kernel_rfl) (by kernel_rfl) (by kernel_rfl) (by kernel_rfl) (fun _ _ _ h => h) (Or.inl ⟨by kernel_rfl, ?h10_8⟩) hHeld ?r10_8
    case h10_8 => (intro w hSw; (try dsimp only at hSw); go_simp; try with_reducible rfl)
    try simp only [Act.put, List.setIfInBounds_toArray, List.set_cons_zero, List.set_cons_succ]
    refine wpAnyH_take (i := 9) (oi := { dst := some 78, op := Op.extract (Operand.tmp 69) 1, type := 26, pos := "outright.go:207", after := #[{ on := 7, ground := Ground.data }, { on := 10, ground := Ground.gcOnly Departure.lateStores }], guard := none }) (v := ?v10_9) (by kernel_rfl) (by kernel_rfl) (by kernel_rfl) (by kernel_rfl) (fun _ _ _ h => h) (Or.inl ⟨by kernel_rfl, ?h10_9⟩) hHeld ?r10_9
    case h10_9 => (intro w hSw; (try dsimp only at hSw); go_simp; try with_reducible rfl)
    try simp only [Act.put, List.setIfInBounds_toArray, List.set_cons_zero, List.set_cons_succ]
    refine wpAnyH_take (i := 10) (oi := { dst := some 9, op := Op.assign (Operand.tmp 77), type := 35, pos := "outright.go:207", after := #[{ on := 8, ground := Ground.data }, { on := 6, ground := Ground.chain }, { on := 0, ground := Ground.phase }, { on := 1, ground := Ground.phase }, { on := 2, ground := Ground.phase }, { on := 3, ground := Ground.phase }, { on := 4, ground := Ground.phase }, { on := 5, ground := Ground.phase }, { on := 6, ground := Ground.phase }, { on := 7, ground := Ground.phase }, { on := 8, ground := Ground.phase }, { on := 9, ground := Ground.textOnly Departure.lateStores }], guard := none }) (v := ?v10_10) (by kernel_rfl) (by kernel_rfl) (by kernel_rfl) (by kernel_rfl) (fun _ _ _ h => h) (Or.inl ⟨by kernel_rfl, ?h10_10⟩) hHeld ?r10_10
    case h10_10 => (intro w hSw; (try dsimp only at hSw); go_simp; try with_reducible rfl)
    try simp only [Act.put, List.setIfInBounds_toArray, List.set_cons_zero, List.set_cons_succ]
    refine wpAnyH_take (i := 11) (oi := { dst := some 10, op := Op.assign (Operand.tmp 78), type := 26, pos := "outright.go:207", after := #[{ on := 9, ground := Ground.data }, { on := 10, ground := Ground.chain }, { on := 0, ground := Ground.phase }, { on := 1, ground := Ground.phase }, { on := 2, ground := Ground.phase }, { on := 3, ground := Ground.phase }, { on := 4, ground := Ground.phase }, { on := 5, ground := Ground.phase }, { on := 6, ground := Ground.phase }, { on := 7, ground := Ground.phase }, { on := 8, ground := Ground.phase }, { on := 9, ground := Ground.phase }, { on := 10, ground := Ground.phase }], guard := none }) (v := ?v10_11) (by kernel_rfl) (by kernel_rfl) (by kernel_rfl) (by kernel_rfl) (fun _ _ _ h => h) (Or.inl ⟨by kernel_rfl, ?h10_11⟩) hHeld ?r10_11
    case h10_11 => (intro w hSw; (try dsimp only at hSw); go_simp; try with_reducible rfl)
    try simp only [Act.put, List.setIfInBounds_toArray, List.set_cons_zero, List.set_cons_succ]
    refine wpAnyH_done (by kernel_rfl) ?_ _
    go_wp2_with fail
    go_at_call 14; refine ((HTX.out) _ (below_then hb5 hHeld)).mono ?_; rintro e w8 ⟨rfl, hb8⟩
    have hbk8 := (hbk4.later hHeld).later hb8
    have q0 := hbk8.cell 0
    have q1 := hbk8.cell 1
    have q2 := hbk8.cell 2
    simp only [List.getElem?_toArray, List.getElem?_cons_zero, List.getElem?_cons_succ] at q0 q1 q2
    go_wp2_with fail
    go_at_call 27; refine ((HRIG.out) _).mono ?_; rintro e w9 ⟨rfl, hb9⟩
    go_wp2_with fail
    go_ret
    exact ⟨rfl, below_then hbw (below_then hb5 (below_then hHeld (below_then hb8 hb9)))⟩
set_option maxRecDepth 100000 in
set_option maxHeartbeats 6400000 in
theorem wrong_2 (l : List Ent) (f : Int) (A : Option Addr) (c : Nat) (w : World) (h0 : 0 ≤ f) (h1 : f < 256) (hf : f % 8 = 2) (hv : validL l = true) (hsm : smallL l = true) (hr : Reads w w.heap.size 3 A l.length (flat l)) (hle : l.length ≤ c) :
    Calls Tryd.prog 10 #[.slice A l.length c, .int .u8 f] w fun e w' => e = .returned (.bool true) ∧ Below w.heap.size w w' := by
  obtain ⟨hl, hsz⟩ := small_each hsm
  obtain ⟨i0, hi, hz0, hz1, hz2⟩ := info_parts infoEnt
  have HSM := Lib.hid hsm
  have HV := Lib.hid hv
  have HS := Lib.hid hsz
  have HR := Lib.hid hr
  clear hsm hv hsz hr
  go_enter Tryd.func10, Tryd.ntmps10
  go_wp2_with fail
  go_at_call 12; refine (awake_any _).mono ?_; rintro e w1 ⟨rfl, hb1⟩
  go_wp2_with fail
  go_at_call 17; refine (small_any l A c _ ((HR.out).later hb1) (fun e h => by have := HS.out e h; unfold maxLen; omega)).mono ?_; rw [HSM.out]; rintro e w2 ⟨rfl, rfl⟩
  go_wp2_with fail
  go_at_call 19; refine (valid_any l A c _ (fun e h => by have := (HS.out e h).1; omega) hle ((HR.out).later hb1)).mono ?_; rw [HV.out]; rintro e w3 ⟨rfl, hb3⟩
  go_wp2_with fail
  obtain ⟨W1, hW1⟩ : ∃ W1 : World, W1 = (w3.alloc (.cells #[str [97, 98, 99, 100, 101, 102, 103, 104, 105, 106, 107, 108, 109, 110, 111, 112, 113], .int .u8 1, str [90, 101, 98, 114, 97]] 39)).alloc (.cells #[str [65, 110, 110], str [97, 32, 98], str [46]] 9) := ⟨_, rfl⟩
  have hb4 : Below w3.heap.size w3 W1 := by rw [hW1]; exact ((Below.refl _ _).alloc (Nat.le_refl _) _).alloc (by simp) _
  have hbk : Blk W1 w3.heap.size 39 #[str [97, 98, 99, 100, 101, 102, 103, 104, 105, 106, 107, 108, 109, 110, 111, 112, 113], .int .u8 1, str [90, 101, 98, 114, 97]] := by rw [hW1]; exact (Blk.new w3 _ _).alloc _
  have hbt : Blk W1 (w3.heap.size + 1) 9 (([[65, 110, 110], [97, 32, 98], [46]] : List (List UInt8)).map str).toArray := by rw [hW1]; have h := Blk.new (w3.alloc (.cells #[str [97, 98, 99, 100, 101, 102, 103, 104, 105, 106, 107, 108, 109, 110, 111, 112, 113], .int .u8 1, str [90, 101, 98, 114, 97]] 39)) 9 #[str [65, 110, 110], str [97, 32, 98], str [46]]; rw [World.size_alloc] at h; exact h
  have HTX : Hid (∀ W, Below W1.heap.size W1 W → Calls Tryd.prog 14 #[.slice (some ⟨w3.heap.size + 1, 0, none⟩) 3 3] W fun e w' => e = .returned (.tuple #[str [], .int .i64 2]) ∧ Below W.heap.size W w') := fun W hb => text_no [[65, 110, 110], [97, 32, 98], [46]] (some ⟨w3.heap.size + 1, 0, none⟩) 3 W (by kernel_rfl) (by simp) (by simp) (by simp) (blk_reads (hbt.later hb) (by simp))
  clear hbt
  have HRT : Hid (rightL ([97, 98, 99, 100, 101, 102, 103, 104, 105, 106, 107, 108, 109, 110, 111, 112, 113], 1, [90, 101, 98, 114, 97]) = false) := (by kernel_rfl : rightL ([97, 98, 99, 100, 101, 102, 103, 104, 105, 106, 107, 108, 109, 110, 111, 112, 113], 1, [90, 101, 98, 114, 97]) = false)
  have hbw := below_then hb1 (below_then hb3 hb4)
  have HRl := Lib.hid ((HR.out).later hbw)
  have HLW : Hid (∀ x ∈ l, x.1.length ≤ 1048576) := fun x h => by have := (HS.out x h).1; omega
  have HADD : Hid (Calls Tryd.prog 26 #[.slice A l.length c, .agg #[str [97, 98, 99, 100, 101, 102, 103, 104, 105, 106, 107, 108, 109, 110, 111, 112, 113], .int .u8 1, str [90, 101, 98, 114, 97]]] W1 fun e' w' => e' = .returned (.tuple #[.slice none 0 0, .int .i64 2]) ∧ Below W1.heap.size W1 w') := add_bad l ([97, 98, 99, 100, 101, 102, 103, 104, 105, 106, 107, 108, 109, 110, 111, 112, 113], 1, [90, 101, 98, 114, 97]) A c W1 (by omega) HLW.out hle HRl.out (by simp) (by rw [HRT.out, Bool.and_false])
  have HRIG : Hid (∀ W : World, Calls Tryd.prog 27 #[.agg #[str [97, 98, 99, 100, 101, 102, 103, 104, 105, 106, 107, 108, 109, 110, 111, 112, 113], .int .u8 1, str [90, 101, 98, 114, 97]]] W fun e' w' => e' = .returned (.bool false) ∧ Below W.heap.size W w') := fun W => (right_any [97, 98, 99, 100, 101, 102, 103, 104, 105, 106, 107, 108, 109, 110, 111, 112, 113] 1 [90, 101, 98, 114, 97] W (by simp)).mono fun e' w' h => by rw [show rightL ([97, 98, 99, 100, 101, 102, 103, 104, 105, 106, 107, 108, 109, 110, 111, 112, 113], 1, [90, 101, 98, 114, 97]) = false from HRT.out] at h; exact h
  rw [← hW1]
  clear hW1
  refine (HADD.out).mono ?_; rintro e w4 ⟨rfl, hb5⟩
  have hbk4 := hbk.later hb5
  have k0 := hbk4.cell 0
  have k1 := hbk4.cell 1
  have k2 := hbk4.cell 2
  simp only [List.getElem?_toArray, List.getElem?_cons_zero, List.getElem?_cons_succ] at k0 k1 k2
  have HRW := Lib.hid ((HRl.out).later hb5)
  go_wp2_with fail
  refine wp_region_held_drew (S := fun W => Below w4.heap.size w4 W) (by kernel_rfl) (by exact (Below.refl _ _).drew) (fun hHeld => ?_)
  refine wpAnyH_take (i := 1) (oi := { dst := some 71, op := Op.move (Operand.tmp 0), type := 33, pos := "outright.go:207", after := #[], guard := none }) (v := ?v11_1) (by kernel_rfl) (by kernel_rfl) (by kernel_rfl) (by kernel_rfl) (fun _ _ _ h => h) (Or.inl ⟨by kernel_rfl, ?h11_1⟩) hHeld ?r11_1
  case h11_1 => (intro w hSw; (try dsimp only at hSw); go_simp; try with_reducible rfl)
  try simp only [Act.put, List.setIfInBounds_toArray, List.set_cons_zero, List.set_cons_succ]
  refine wpAnyH_take (i := 3) (oi := { dst := some 73, op := Op.load 39 (Operand.tmp 5), type := 39, pos := "outright.go:207", after := #[], guard := none }) (v := ?v11_3) (by kernel_rfl) (by kernel_rfl) (by kernel_rfl) (by kernel_rfl) (fun _ _ _ h => h) (Or.inl ⟨by kernel_rfl, ?h11_3⟩) hHeld ?r11_3
  case h11_3 => (intro w hSw; (try dsimp only at hSw); have m0 := (hSw.cell (p := ⟨w3.heap.size, 0, none⟩) hbk4.lt).trans k0; have m1 := (hSw.cell (p := ⟨w3.heap.size, 1, none⟩) hbk4.lt).trans k1; have m2 := (hSw.cell (p := ⟨w3.heap.size, 2, none⟩) hbk4.lt).trans k2; go_simp; try with_reducible rfl)
  try simp only [Act.put, List.setIfInBounds_toArray, List.set_cons_zero, List.set_cons_succ]
  refine wpAnyH_ready (rs := [0, 4]) (by kernel_rfl) (by simp) ?_
  refine AllReadyH.cons (i := 0) (o := { dst := some 70, op := Op.buildSlice 33 0 #[], type := 33, pos := "outright.go:207", after := #[], guard := none }) rfl (fun K hK => ?_) (AllReadyH.cons (i := 4) (o := { dst := some 74, op := Op.buildSlice 33 1 #[(0, Operand.tmp 73)], type := 33, pos := "outright.go:207", after := #[{ on := 3, ground := Ground.data }], guard := none }) rfl (fun K hK => ?_) AllReadyH.nil)
  · skip
    go_simp
    have HR0 := (own_empty w4 w4.heap.size 39 (Nat.le_refl _)).drew
    have hKeep := Below.alloc hHeld hHeld.size (.cells #[] 39)
    refine hK.out _ _ (by exact hKeep) (fun hHeld => ?_)
    clear hK K
    try simp only [Act.put, List.setIfInBounds_toArray, List.set_cons_zero, List.set_cons_succ]
    refine wpAnyH_ready (rs := [2, 4]) (by kernel_rfl) (by simp) ?_
    refine AllReadyH.cons (i := 2) (o := { dst := some 72, op := Op.call { callee := Callee.builtin Builtin.append, args := #[Operand.tmp 70, Operand.tmp 71], argTypes := #[33, 33] }, type := 33, pos := "outright.go:207", after := #[{ on := 0, ground := Ground.data }, { on := 1, ground := Ground.data }], guard := none }) rfl (fun K hK => ?_) (AllReadyH.cons (i := 4) (o := { dst := some 74, op := Op.buildSlice 33 1 #[(0, Operand.tmp 73)], type := 33, pos := "outright.go:207", after := #[{ on := 3, ground := Ground.data }], guard := none }) rfl (fun K hK => ?_) AllReadyH.nil)
    · skip
      refine step_append_any _ (by rfl) _ _ _ (by rfl) w4.heap.size 39 i0 _ 3 40 Tryd.underlying33 hi hz0 hz1 hz2 rfl (by decide) _ 0 [] (by rfl) HR0 _ A l.length c (flat l) (by rfl) (HRW.out.below hHeld) (flat_one l) (by unfold maxLen; omega) (by omega) hHeld.size ?_
      intro v5 w5 hown5 hg5 hat5
      have hKeep : Below w4.heap.size w4 w5 := hHeld.grown hg5 hHeld.size (own_ge HR0)
      refine hK.out _ _ (by exact hKeep) (fun hHeld => ?_)
      clear hK K
      try simp only [Act.put, List.setIfInBounds_toArray, List.set_cons_zero, List.set_cons_succ]
      refine wpAnyH_ready (rs := [4]) (by kernel_rfl) (by simp) ?_
      refine AllReadyH.cons (i := 4) (o := { dst := some 74, op := Op.buildSlice 33 1 #[(0, Operand.tmp 73)], type := 33, pos := "outright.go:207", after := #[{ on := 3, ground := Ground.data }], guard := none }) rfl (fun K hK => ?_) AllReadyH.nil
      go_simp
      have HB4 := Blk.new w5 39 #[str [97, 98, 99, 100, 101, 102, 103, 104, 105, 106, 107, 108, 109, 110, 111, 112, 113], .int .u8 1, str [90, 101, 98, 114, 97]]
      have HO := hown5.alloc (.cells #[str [97, 98, 99, 100, 101, 102, 103, 104, 105, 106, 107, 108, 109, 110, 111, 112, 113], .int .u8 1, str [90, 101, 98, 114, 97]] 39)
      have hKeep := Below.alloc hHeld hHeld.size (.cells #[str [97, 98, 99, 100, 101, 102, 103, 104, 105, 106, 107, 108, 109, 110, 111, 112, 113], .int .u8 1, str [90, 101, 98, 114, 97]] 39)
      refine hK.out _ _ (by exact hKeep) (fun hHeld => ?_)
      clear hK K
      try simp only [Act.put, List.setIfInBounds_toArray, List.set_cons_zero, List.set_cons_succ]
      refine wpAnyH_ready (rs := [5]) (by kernel_rfl) (by simp) ?_
      refine AllReadyH.cons (i := 5) (o := { dst := some 75, op := Op.call { callee := Callee.builtin Builtin.append, args := #[Operand.tmp 72, Operand.tmp 74], argTypes := #[33, 33] }, type := 33, pos := "outright.go:207", after := #[{ on := 2, ground := Ground.data }, { on := 4, ground := Ground.data }, { on := 2, ground := Ground.chain }], guard := none }) rfl (fun K hK => ?_) AllReadyH.nil
      refine step_append_any _ (by rfl) _ _ _ (by rfl) w4.heap.size 39 i0 _ 3 40 Tryd.underlying33 hi hz0 hz1 hz2 rfl (by decide) v5 (0 + l.length) ([] ++ flat l) (by rfl) HO _ (some ⟨w5.heap.size, 0, none⟩) 1 1 [str [97, 98, 99, 100, 101, 102, 103, 104, 105, 106, 107, 108, 109, 110, 111, 112, 113], .int .u8 1, str [90, 101, 98, 114, 97]] (by rfl) (blk_reads HB4 rfl) (by simp [Value.oneCell']) (by unfold maxLen; omega) (by omega) hHeld.size ?_
      intro v6 w6 hown6 hg6 hat6
      obtain ⟨A6, c6, rfl, hc6⟩ := own_form hown6
      have HRD6 := Reads.of_own hown6
      rw [Nat.zero_add, List.nil_append] at HRD6
      have hKeep : Below w4.heap.size w4 w6 := hHeld.grown hg6 hHeld.size (own_ge HO)
      refine hK.out _ _ (by exact hKeep) (fun hHeld => ?_)
      clear hK K
      try simp only [Act.put, List.setIfInBounds_toArray, List.set_cons_zero, List.set_cons_succ]
      refine wpAnyH_ready (rs := [6]) (by kernel_rfl) (by simp) ?_
      refine AllReadyH.cons (i := 6) (o := { dst := some 76, op := Op.call { callee := Callee.value (Operand.func 18), args := #[Operand.tmp 75, Operand.const (Value.string { data := #[122, 101, 98, 114, 97] })], argTypes := #[33, 9] }, type := 36, pos := "outright.go:207", after := #[{ on := 5, ground := Ground.data }, { on := 5, ground := Ground.chain }], guard := none }) rfl (fun K hK => ?_) AllReadyH.nil
      go_simp
      refine (look_bad l ([97, 98, 99, 100, 101, 102, 103, 104, 105, 106, 107, 108, 109, 110, 111, 112, 113], 1, [90, 101, 98, 114, 97]) [122, 101, 98, 114, 97] A6 (l.length + 1) c6 w6 rfl HRT.out HLW.out (by simp) (by omega) _ rfl HRD6).mono ?_
      rintro e6 w7 ⟨A7, c7, rfl, hb7⟩
      have hKeep : Below w4.heap.size w4 w7 := hHeld.trans (hb7.mono hHeld.size)
      go_wp2_with fail
      refine hK.out _ _ (by exact hKeep) (fun hHeld => ?_)
      clear hK K
      try simp only [Act.put, List.setIfInBounds_toArray, List.set_cons_zero, List.set_cons_succ]
      refine wpAnyH_take (i := 7) (oi := { dst := some 69, op := Op.move (Operand.tmp 76), type := 36, pos := "outright.go:207", after := #[{ on := 6, ground := Ground.data }], guard := none }) (v := ?v13_7) (by kernel_rfl) (by kernel_rfl) (by kernel_rfl) (by kernel_rfl) (fun _ _ _ h => h) (Or.inl ⟨by kernel_rfl, ?h13_7⟩) hHeld ?r13_7
      case h13_7 => (intro w hSw; (try dsimp only at hSw); go_simp; try with_reducible rfl)
      try simp only [Act.put, List.setIfInBounds_toArray, List.set_cons_zero, List.set_cons_succ]
      refine wpAnyH_take (i := 8) (oi := { dst := some 77, op := Op.extract (Operand.tmp 69) 0, type := 35, pos := "outright.go:207", after := #[{ on := 7, ground := Ground.data }], guard := none }) (v := ?v13_8) (by kernel_rfl) (by kernel_rfl) (by kernel_rfl) (by kernel_rfl) (fun _ _ _ h => h) (Or.inl ⟨by kernel_rfl, ?h13_8⟩) hHeld ?r13_8
      case h13_8 => (intro w hSw; (try dsimp only at hSw); go_simp; try with_reducible rfl)
      try simp only [Act.put, List.setIfInBounds_toArray, List.set_cons_zero, List.set_cons_succ]
      refine wpAnyH_take (i := 9) (oi := { dst := some 78, op := Op.extract (Operand.tmp 69) 1, type := 26, pos := "outright.go:207", after := #[{ on := 7, ground := Ground.data }, { on := 10, ground := Ground.gcOnly Departure.lateStores }], guard := none }) (v := ?v13_9) (by kernel_rfl) (by kernel_rfl) (by kernel_rfl) (by kernel_rfl) (fun _ _ _ h => h) (Or.inl ⟨by kernel_rfl, ?h13_9⟩) hHeld ?r13_9
      case h13_9 => (intro w hSw; (try dsimp only at hSw); go_simp; try with_reducible rfl)
      try simp only [Act.put, List.setIfInBounds_toArray, List.set_cons_zero, List.set_cons_succ]
      refine wpAnyH_take (i := 10) (oi := { dst := some 9, op := Op.assign (Operand.tmp 77), type := 35, pos := "outright.go:207", after := #[{ on := 8, ground := Ground.data }, { on := 6, ground := Ground.chain }, { on := 0, ground := Ground.phase }, { on := 1, ground := Ground.phase }, { on := 2, ground := Ground.phase }, { on := 3, ground := Ground.phase }, { on := 4, ground := Ground.phase }, { on := 5, ground := Ground.phase }, { on := 6, ground := Ground.phase }, { on := 7, ground := Ground.phase }, { on := 8, ground := Ground.phase }, { on := 9, ground := Ground.textOnly Departure.lateStores }], guard := none }) (v := ?v13_10) (by kernel_rfl) (by kernel_rfl) (by kernel_rfl) (by kernel_rfl) (fun _ _ _ h => h) (Or.inl ⟨by kernel_rfl, ?h13_10⟩) hHeld ?r13_10
      case h13_10 => (intro w hSw; (try dsimp only at hSw); go_simp; try with_reducible rfl)
      try simp only [Act.put, List.setIfInBounds_toArray, List.set_cons_zero, List.set_cons_succ]
      refine wpAnyH_take (i := 11) (oi := { dst := some 10, op := Op.assign (Operand.tmp 78), type := 26, pos := "outright.go:207", after := #[{ on := 9, ground := Ground.data }, { on := 10, ground := Ground.chain }, { on := 0, ground := Ground.phase }, { on := 1, ground := Ground.phase }, { on := 2, ground := Ground.phase }, { on := 3, ground := Ground.phase }, { on := 4, ground := Ground.phase }, { on := 5, ground := Ground.phase }, { on := 6, ground := Ground.phase }, { on := 7, ground := Ground.phase }, { on := 8, ground := Ground.phase }, { on := 9, ground := Ground.phase }, { on := 10, ground := Ground.phase }], guard := none }) (v := ?v13_11) (by kernel_rfl) (by kernel_rfl) (by kernel_rfl) (by kernel_rfl) (fun _ _ _ h => h) (Or.inl ⟨by kernel_rfl, ?h13_11⟩) hHeld ?r13_11
      case h13_11 => (intro w hSw; (try dsimp only at hSw); go_simp; try with_reducible rfl)
      try simp only [Act.put, List.setIfInBounds_toArray, List.set_cons_zero, List.set_cons_succ]
      refine wpAnyH_done (by kernel_rfl) ?_ _
      go_wp2_with fail
      go_at_call 14; refine ((HTX.out) _ (below_then hb5 hHeld)).mono ?_; rintro e w8 ⟨rfl, hb8⟩
      have hbk8 := (hbk4.later hHeld).later hb8
      have q0 := hbk8.cell 0
      have q1 := hbk8.cell 1
      have q2 := hbk8.cell 2
      simp only [List.getElem?_toArray, List.getElem?_cons_zero, List.getElem?_cons_succ] at q0 q1 q2
      go_wp2_with fail
      go_at_call 27; refine ((HRIG.out) _).mono ?_; rintro e w9 ⟨rfl, hb9⟩
      go_wp2_with fail
      go_ret
      exact ⟨rfl, below_then hbw (below_then hb5 (below_then hHeld (below_then hb8 hb9)))⟩
    · skip
      go_simp
      have HB4 : Blk ((w4.alloc (.cells #[] 39)).alloc (.cells #[str [97, 98, 99, 100, 101, 102, 103, 104, 105, 106, 107, 108, 109, 110, 111, 112, 113], .int .u8 1, str [90, 101, 98, 114, 97]] 39)).drew (w4.heap.size + 1) 39 #[str [97, 98, 99, 100, 101, 102, 103, 104, 105, 106, 107, 108, 109, 110, 111, 112, 113], .int .u8 1, str [90, 101, 98, 114, 97]] := (by have h := Blk.new (w4.alloc (.cells #[] 39)) 39 #[str [97, 98, 99, 100, 101, 102, 103, 104, 105, 106, 107, 108, 109, 110, 111, 112, 113], .int .u8 1, str [90, 101, 98, 114, 97]]; rw [World.size_alloc] at h; exact h.drew)
      have HR1 := (HR0.alloc (.cells #[str [97, 98, 99, 100, 101, 102, 103, 104, 105, 106, 107, 108, 109, 110, 111, 112, 113], .int .u8 1, str [90, 101, 98, 114, 97]] 39))
      have hKeep := Below.alloc hHeld hHeld.size (.cells #[str [97, 98, 99, 100, 101, 102, 103, 104, 105, 106, 107, 108, 109, 110, 111, 112, 113], .int .u8 1, str [90, 101, 98, 114, 97]] 39)
      refine hK.out _ _ (by exact hKeep) (fun hHeld => ?_)
      clear hK K
      try simp only [Act.put, List.setIfInBounds_toArray, List.set_cons_zero, List.set_cons_succ]
      refine wpAnyH_ready (rs := [2]) (by kernel_rfl) (by simp) ?_
      refine AllReadyH.cons (i := 2) (o := { dst := some 72, op := Op.call { callee := Callee.builtin Builtin.append, args := #[Operand.tmp 70, Operand.tmp 71], argTypes := #[33, 33] }, type := 33, pos := "outright.go:207", after := #[{ on := 0, ground := Ground.data }, { on := 1, ground := Ground.data }], guard := none }) rfl (fun K hK => ?_) AllReadyH.nil
      refine step_append_any _ (by rfl) _ _ _ (by rfl) w4.heap.size 39 i0 _ 3 40 Tryd.underlying33 hi hz0 hz1 hz2 rfl (by decide) _ 0 [] (by rfl) HR1 _ A l.length c (flat l) (by rfl) (HRW.out.below hHeld) (flat_one l) (by unfold maxLen; omega) (by omega) hHeld.size ?_
      intro v5 w5 hown5 hg5 hat5
      have hKeep : Below w4.heap.size w4 w5 := hHeld.grown hg5 hHeld.size (own_ge HR1)
      have HB5 := HB4.grown hg5 (by simp [Value.ownBlock])
      refine hK.out _ _ (by exact hKeep) (fun hHeld => ?_)
      clear hK K
      try simp only [Act.put, List.setIfInBounds_toArray, List.set_cons_zero, List.set_cons_succ]
      refine wpAnyH_ready (rs := [5]) (by kernel_rfl) (by simp) ?_
      refine AllReadyH.cons (i := 5) (o := { dst := some 75, op := Op.call { callee := Callee.builtin Builtin.append, args := #[Operand.tmp 72, Operand.tmp 74], argTypes := #[33, 33] }, type := 33, pos := "outright.go:207", after := #[{ on := 2, ground := Ground.data }, { on := 4, ground := Ground.data }, { on := 2, ground := Ground.chain }], guard := none }) rfl (fun K hK => ?_) AllReadyH.nil
      refine step_append_any _ (by rfl) _ _ _ (by rfl) w4.heap.size 39 i0 _ 3 40 Tryd.underlying33 hi hz0 hz1 hz2 rfl (by decide) v5 (0 + l.length) ([] ++ flat l) (by rfl) hown5 _ (some ⟨(w4.heap.size + 1), 0, none⟩) 1 1 [str [97, 98, 99, 100, 101, 102, 103, 104, 105, 106, 107, 108, 109, 110, 111, 112, 113], .int .u8 1, str [90, 101, 98, 114, 97]] (by rfl) (blk_reads HB5 rfl) (by simp [Value.oneCell']) (by unfold maxLen; omega) (by omega) hHeld.size ?_
      intro v6 w6 hown6 hg6 hat6
      obtain ⟨A6, c6, rfl, hc6⟩ := own_form hown6
      have HRD6 := Reads.of_own hown6
      rw [Nat.zero_add, List.nil_append] at HRD6
      have hKeep : Below w4.heap.size w4 w6 := hHeld.grown hg6 hHeld.size (own_ge hown5)
      refine hK.out _ _ (by exact hKeep) (fun hHeld => ?_)
      clear hK K
      try simp only [Act.put, List.setIfInBounds_toArray, List.set_cons_zero, List.set_cons_succ]
      refine wpAnyH_ready (rs := [6]) (by kernel_rfl) (by simp) ?_
      refine AllReadyH.cons (i := 6) (o := { dst := some 76, op := Op.call { callee := Callee.value (Operand.func 18), args := #[Operand.tmp 75, Operand.const (Value.string { data := #[122, 101, 98, 114, 97] })], argTypes := #[33, 9] }, type := 36, pos := "outright.go:207", after := #[{ on := 5, ground := Ground.data }, { on := 5, ground := Ground.chain }], guard := none }) rfl (fun K hK => ?_) AllReadyH.nil
      go_simp
      refine (look_bad l ([97, 98, 99, 100, 101, 102, 103, 104, 105, 106, 107, 108, 109, 110, 111, 112, 113], 1, [90, 101, 98, 114, 97]) [122, 101, 98, 114, 97] A6 (l.length + 1) c6 w6 rfl HRT.out HLW.out (by simp) (by omega) _ rfl HRD6).mono ?_
      rintro e6 w7 ⟨A7, c7, rfl, hb7⟩
      have hKeep : Below w4.heap.size w4 w7 := hHeld.trans (hb7.mono hHeld.size)
      go_wp2_with fail
      refine hK.out _ _ (by exact hKeep) (fun hHeld => ?_)
      clear hK K
      try simp only [Act.put, List.setIfInBounds_toArray, List.set_cons_zero, List.set_cons_succ]
      refine wpAnyH_take (i := 7) (oi := { dst := some 69, op := Op.move (Operand.tmp 76), type := 36, pos := "outright.go:207", after := #[{ on := 6, ground := Ground.data }], guard := none }) (v := ?v14_7) (by kernel_rfl) (by kernel_rfl) (by kernel_rfl) (by kernel_rfl) (fun _ _ _ h => h) (Or.inl ⟨by kernel_rfl, ?h14_7⟩) hHeld ?r14_7
      case h14_7 => (intro w hSw; (try dsimp only at hSw); go_simp; try with_reducible rfl)
      try simp only [Act.put, List.setIfInBounds_toArray, List.set_cons_zero, List.set_cons_succ]
      refine wpAnyH_take (i := 8) (oi := { dst := some 77, op := Op.extract (Operand.tmp 69) 0, type := 35, pos := "outright.go:207", after := #[{ on := 7, ground := Ground.data }], guard := none }) (v := ?v14_8) (by kernel_rfl) (by kernel_rfl) (by kernel_rfl) (by kernel_rfl) (fun _ _ _ h => h) (Or.inl ⟨by kernel_rfl, ?h14_8⟩) hHeld ?r14_8
      case h14_8 => (intro w hSw; (try dsimp only at hSw); go_simp; try with_reducible rfl)
      try simp only [Act.put, List.setIfInBounds_toArray, List.set_cons_zero, List.set_cons_succ]
      refine wpAnyH_take (i := 9) (oi := { dst := some 78, op := Op.extract (Operand.tmp 69) 1, type := 26, pos := "outright.go:207", after := #[{ on := 7, ground := Ground.data }, { on := 10, ground := Ground.gcOnly Departure.lateStores }], guard := none }) (v := ?v14_9) (by kernel_rfl) (by kernel_rfl) (by kernel_rfl) (by kernel_rfl) (fun _ _ _ h => h) (Or.inl ⟨by kernel_rfl, ?h14_9⟩) hHeld ?r14_9
      case h14_9 => (intro w hSw; (try dsimp only at hSw); go_simp; try with_reducible rfl)
      try simp only [Act.put, List.setIfInBounds_toArray, List.set_cons_zero, List.set_cons_succ]
      refine wpAnyH_take (i := 10) (oi := { dst := some 9, op := Op.assign (Operand.tmp 77), type := 35, pos := "outright.go:207", after := #[{ on := 8, ground := Ground.data }, { on := 6, ground := Ground.chain }, { on := 0, ground := Ground.phase }, { on := 1, ground := Ground.phase }, { on := 2, ground := Ground.phase }, { on := 3, ground := Ground.phase }, { on := 4, ground := Ground.phase }, { on := 5, ground := Ground.phase }, { on := 6, ground := Ground.phase }, { on := 7, ground := Ground.phase }, { on := 8, ground := Ground.phase }, { on := 9, ground := Ground.textOnly Departure.lateStores }], guard := none }) (v := ?v14_10) (by kernel_rfl) (by kernel_rfl) (by kernel_rfl) (by kernel_rfl) (fun _ _ _ h => h) (Or.inl ⟨by kernel_rfl, ?h14_10⟩) hHeld ?r14_10
      case h14_10 => (intro w hSw; (try dsimp only at hSw); go_simp; try with_reducible rfl)
      try simp only [Act.put, List.setIfInBounds_toArray, List.set_cons_zero, List.set_cons_succ]
      refine wpAnyH_take (i := 11) (oi := { dst := some 10, op := Op.assign (Operand.tmp 78), type := 26, pos := "outright.go:207", after := #[{ on := 9, ground := Ground.data }, { on := 10, ground := Ground.chain }, { on := 0, ground := Ground.phase }, { on := 1, ground := Ground.phase }, { on := 2, ground := Ground.phase }, { on := 3, ground := Ground.phase }, { on := 4, ground := Ground.phase }, { on := 5, ground := Ground.phase }, { on := 6, ground := Ground.phase }, { on := 7, ground := Ground.phase }, { on := 8, ground := Ground.phase }, { on := 9, ground := Ground.phase }, { on := 10, ground := Ground.phase }], guard := none }) (v := ?v14_11) (by kernel_rfl) (by kernel_rfl) (by kernel_rfl) (by kernel_rfl) (fun _ _ _ h => h) (Or.inl ⟨by kernel_rfl, ?h14_11⟩) hHeld ?r14_11
      case h14_11 => (intro w hSw; (try dsimp only at hSw); go_simp; try with_reducible rfl)
      try simp only [Act.put, List.setIfInBounds_toArray, List.set_cons_zero, List.set_cons_succ]
      refine wpAnyH_done (by kernel_rfl) ?_ _
      go_wp2_with fail
      go_at_call 14; refine ((HTX.out) _ (below_then hb5 hHeld)).mono ?_; rintro e w8 ⟨rfl, hb8⟩
      have hbk8 := (hbk4.later hHeld).later hb8
      have q0 := hbk8.cell 0
      have q1 := hbk8.cell 1
      have q2 := hbk8.cell 2
      simp only [List.getElem?_toArray, List.getElem?_cons_zero, List.getElem?_cons_succ] at q0 q1 q2
      go_wp2_with fail
      go_at_call 27; refine ((HRIG.out) _).mono ?_; rintro e w9 ⟨rfl, hb9⟩
      go_wp2_with fail
      go_ret
      exact ⟨rfl, below_then hbw (below_then hb5 (below_then hHeld (below_then hb8 hb9)))⟩
  · skip
    go_simp
    have HB4 := (Blk.new w4 39 #[str [97, 98, 99, 100, 101, 102, 103, 104, 105, 106, 107, 108, 109, 110, 111, 112, 113], .int .u8 1, str [90, 101, 98, 114, 97]]).drew
    have hKeep := Below.alloc hHeld hHeld.size (.cells #[str [97, 98, 99, 100, 101, 102, 103, 104, 105, 106, 107, 108, 109, 110, 111, 112, 113], .int .u8 1, str [90, 101, 98, 114, 97]] 39)
    refine hK.out _ _ (by exact hKeep) (fun hHeld => ?_)
    clear hK K
    try simp only [Act.put, List.setIfInBounds_toArray, List.set_cons_zero, List.set_cons_succ]
    refine wpAnyH_ready (rs := [0]) (by kernel_rfl) (by simp) ?_
    refine AllReadyH.cons (i := 0) (o := { dst := some 70, op := Op.buildSlice 33 0 #[], type := 33, pos := "outright.go:207", after := #[], guard := none }) rfl (fun K hK => ?_) AllReadyH.nil
    go_simp
    have HR1 : ((w4.alloc (.cells #[str [97, 98, 99, 100, 101, 102, 103, 104, 105, 106, 107, 108, 109, 110, 111, 112, 113], .int .u8 1, str [90, 101, 98, 114, 97]] 39)).alloc (.cells #[] 39)).drew.ownsRow w4.heap.size 39 3 (.slice (some ⟨w4.heap.size + 1, 0, none⟩) 0 0) 0 [] := (by have h := (own_empty (w4.alloc (.cells #[str [97, 98, 99, 100, 101, 102, 103, 104, 105, 106, 107, 108, 109, 110, 111, 112, 113], .int .u8 1, str [90, 101, 98, 114, 97]] 39)) w4.heap.size 39 (by simp)).drew; rw [World.size_alloc] at h; exact h)
    have HB5 := HB4.alloc (.cells #[] 39)
    have hKeep := Below.alloc hHeld hHeld.size (.cells #[] 39)
    refine hK.out _ _ (by exact hKeep) (fun hHeld => ?_)
    clear hK K
    try simp only [Act.put, List.setIfInBounds_toArray, List.set_cons_zero, List.set_cons_succ]
    refine wpAnyH_ready (rs := [2]) (by kernel_rfl) (by simp) ?_
    refine AllReadyH.cons (i := 2) (o := { dst := some 72, op := Op.call { callee := Callee.builtin Builtin.append, args := #[Operand.tmp 70, Operand.tmp 71], argTypes := #[33, 33] }, type := 33, pos := "outright.go:207", after := #[{ on := 0, ground := Ground.data }, { on := 1, ground := Ground.data }], guard := none }) rfl (fun K hK => ?_) AllReadyH.nil
    refine step_append_any _ (by rfl) _ _ _ (by rfl) w4.heap.size 39 i0 _ 3 40 Tryd.underlying33 hi hz0 hz1 hz2 rfl (by decide) _ 0 [] (by rfl) HR1 _ A l.length c (flat l) (by rfl) (HRW.out.below hHeld) (flat_one l) (by unfold maxLen; omega) (by omega) hHeld.size ?_
    intro v5 w5 hown5 hg5 hat5
    have hKeep : Below w4.heap.size w4 w5 := hHeld.grown hg5 hHeld.size (own_ge HR1)
    have HB6 := HB5.grown hg5 (by simp [Value.ownBlock])
    refine hK.out _ _ (by exact hKeep) (fun hHeld => ?_)
    clear hK K
    try simp only [Act.put, List.setIfInBounds_toArray, List.set_cons_zero, List.set_cons_succ]
    refine wpAnyH_ready (rs := [5]) (by kernel_rfl) (by simp) ?_
    refine AllReadyH.cons (i := 5) (o := { dst := some 75, op := Op.call { callee := Callee.builtin Builtin.append, args := #[Operand.tmp 72, Operand.tmp 74], argTypes := #[33, 33] }, type := 33, pos := "outright.go:207", after := #[{ on := 2, ground := Ground.data }, { on := 4, ground := Ground.data }, { on := 2, ground := Ground.chain }], guard := none }) rfl (fun K hK => ?_) AllReadyH.nil
    refine step_append_any _ (by rfl) _ _ _ (by rfl) w4.heap.size 39 i0 _ 3 40 Tryd.underlying33 hi hz0 hz1 hz2 rfl (by decide) v5 (0 + l.length) ([] ++ flat l) (by rfl) hown5 _ (some ⟨w4.heap.size, 0, none⟩) 1 1 [str [97, 98, 99, 100, 101, 102, 103, 104, 105, 106, 107, 108, 109, 110, 111, 112, 113], .int .u8 1, str [90, 101, 98, 114, 97]] (by rfl) (blk_reads HB6 rfl) (by simp [Value.oneCell']) (by unfold maxLen; omega) (by omega) hHeld.size ?_
    intro v6 w6 hown6 hg6 hat6
    obtain ⟨A6, c6, rfl, hc6⟩ := own_form hown6
    have HRD6 := Reads.of_own hown6
    rw [Nat.zero_add, List.nil_append] at HRD6
    have hKeep : Below w4.heap.size w4 w6 := hHeld.grown hg6 hHeld.size (own_ge hown5)
    refine hK.out _ _ (by exact hKeep) (fun hHeld => ?_)
    clear hK K
    try simp only [Act.put, List.setIfInBounds_toArray, List.set_cons_zero, List.set_cons_succ]
    refine wpAnyH_ready (rs := [6]) (by kernel_rfl) (by simp) ?_
    refine AllReadyH.cons (i := 6) (o := { dst := some 76, op := Op.call { callee := Callee.value (Operand.func 18), args := #[Operand.tmp 75, Operand.const (Value.string { data := #[122, 101, 98, 114, 97] })], argTypes := #[33, 9] }, type := 36, pos := "outright.go:207", after := #[{ on := 5, ground := Ground.data }, { on := 5, ground := Ground.chain }], guard := none }) rfl (fun K hK => ?_) AllReadyH.nil
    go_simp
    refine (look_bad l ([97, 98, 99, 100, 101, 102, 103, 104, 105, 106, 107, 108, 109, 110, 111, 112, 113], 1, [90, 101, 98, 114, 97]) [122, 101, 98, 114, 97] A6 (l.length + 1) c6 w6 rfl HRT.out HLW.out (by simp) (by omega) _ rfl HRD6).mono ?_
    rintro e6 w7 ⟨A7, c7, rfl, hb7⟩
    have hKeep : Below w4.heap.size w4 w7 := hHeld.trans (hb7.mono hHeld.size)
    go_wp2_with fail
    refine hK.out _ _ (by exact hKeep) (fun hHeld => ?_)
    clear hK K
    try simp only [Act.put, List.setIfInBounds_toArray, List.set_cons_zero, List.set_cons_succ]
    refine wpAnyH_take (i := 7) (oi := { dst := some 69, op := Op.move (Operand.tmp 76), type := 36, pos := "outright.go:207", after := #[{ on := 6, ground := Ground.data }], guard := none }) (v := ?v15_7) (by kernel_rfl) (by kernel_rfl) (by kernel_rfl) (by kernel_rfl) (fun _ _ _ h => h) (Or.inl ⟨by kernel_rfl, ?h15_7⟩) hHeld ?r15_7
    case h15_7 => (intro w hSw; (try dsimp only at hSw); go_simp; try with_reducible rfl)
    try simp only [Act.put, List.setIfInBounds_toArray, List.set_cons_zero, List.set_cons_succ]
    refine wpAnyH_take (i := 8) (oi := { dst := some 77, op := Op.extract (Operand.tmp 69) 0, type := 35, pos := "outright.go:207", after := #[{ on := 7, ground := Ground.data }], guard := none }) (v := ?v15_8) (by kernel_rfl) (by kernel_rfl) (by kernel_rfl) (by kernel_rfl) (fun _ _ _ h => h) (Or.inl ⟨by kernel_rfl, ?h15_8⟩) hHeld ?r15_8
    case h15_8 => (intro w hSw; (try dsimp only at hSw); go_simp; try with_reducible rfl)
    try simp only [Act.put, List.setIfInBounds_toArray, List.set_cons_zero, List.set_cons_succ]
    refine wpAnyH_take (i := 9) (oi := { dst := some 78, op := Op.extract (Operand.tmp 69) 1, type := 26, pos := "outright.go:207", after := #[{ on := 7, ground := Ground.data }, { on := 10, ground := Ground.gcOnly Departure.lateStores }], guard := none }) (v := ?v15_9) (by kernel_rfl) (by kernel_rfl) (by kernel_rfl) (by kernel_rfl) (fun _ _ _ h => h) (Or.inl ⟨by kernel_rfl, ?h15_9⟩) hHeld ?r15_9
    case h15_9 => (intro w hSw; (try dsimp only at hSw); go_simp; try with_reducible rfl)
    try simp only [Act.put, List.setIfInBounds_toArray, List.set_cons_zero, List.set_cons_succ]
    refine wpAnyH_take (i := 10) (oi := { dst := some 9, op := Op.assign (Operand.tmp 77), type := 35, pos := "outright.go:207", after := #[{ on := 8, ground := Ground.data }, { on := 6, ground := Ground.chain }, { on := 0, ground := Ground.phase }, { on := 1, ground := Ground.phase }, { on := 2, ground := Ground.phase }, { on := 3, ground := Ground.phase }, { on := 4, ground := Ground.phase }, { on := 5, ground := Ground.phase }, { on := 6, ground := Ground.phase }, { on := 7, ground := Ground.phase }, { on := 8, ground := Ground.phase }, { on := 9, ground := Ground.textOnly Departure.lateStores }], guard := none }) (v := ?v15_10) (by kernel_rfl) (by kernel_rfl) (by kernel_rfl) (by kernel_rfl) (fun _ _ _ h => h) (Or.inl ⟨by kernel_rfl, ?h15_10⟩) hHeld ?r15_10
    case h15_10 => (intro w hSw; (try dsimp only at hSw); go_simp; try with_reducible rfl)
    try simp only [Act.put, List.setIfInBounds_toArray, List.set_cons_zero, List.set_cons_succ]
    refine wpAnyH_take (i := 11) (oi := { dst := some 10, op := Op.assign (Operand.tmp 78), type := 26, pos := "outright.go:207", after := #[{ on := 9, ground := Ground.data }, { on := 10, ground := Ground.chain }, { on := 0, ground := Ground.phase }, { on := 1, ground := Ground.phase }, { on := 2, ground := Ground.phase }, { on := 3, ground := Ground.phase }, { on := 4, ground := Ground.phase }, { on := 5, ground := Ground.phase }, { on := 6, ground := Ground.phase }, { on := 7, ground := Ground.phase }, { on := 8, ground := Ground.phase }, { on := 9, ground := Ground.phase }, { on := 10, ground := Ground.phase }], guard := none }) (v := ?v15_11) (by kernel_rfl) (by kernel_rfl) (by kernel_rfl) (by kernel_rfl) (fun _ _ _ h => h) (Or.inl ⟨by kernel_rfl, ?h15_11⟩) hHeld ?r15_11
    case h15_11 => (intro w hSw; (try dsimp only at hSw); go_simp; try with_reducible rfl)
    try simp only [Act.put, List.setIfInBounds_toArray, List.set_cons_zero, List.set_cons_succ]
    refine wpAnyH_done (by kernel_rfl) ?_ _
    go_wp2_with fail
    go_at_call 14; refine ((HTX.out) _ (below_then hb5 hHeld)).mono ?_; rintro e w8 ⟨rfl, hb8⟩
    have hbk8 := (hbk4.later hHeld).later hb8
    have q0 := hbk8.cell 0
    have q1 := hbk8.cell 1
    have q2 := hbk8.cell 2
    simp only [List.getElem?_toArray, List.getElem?_cons_zero, List.getElem?_cons_succ] at q0 q1 q2
    go_wp2_with fail
    go_at_call 27; refine ((HRIG.out) _).mono ?_; rintro e w9 ⟨rfl, hb9⟩
    go_wp2_with fail
    go_ret
    exact ⟨rfl, below_then hbw (below_then hb5 (below_then hHeld (below_then hb8 hb9)))⟩
set_option maxRecDepth 100000 in
set_option maxHeartbeats 6400000 in
theorem wrong_3 (l : List Ent) (f : Int) (A : Option Addr) (c : Nat) (w : World) (h0 : 0 ≤ f) (h1 : f < 256) (hf : f % 8 = 3) (hv : validL l = true) (hsm : smallL l = true) (hr : Reads w w.heap.size 3 A l.length (flat l)) (hle : l.length ≤ c) :
    Calls Tryd.prog 10 #[.slice A l.length c, .int .u8 f] w fun e w' => e = .returned (.bool true) ∧ Below w.heap.size w w' := by
  obtain ⟨hl, hsz⟩ := small_each hsm
  obtain ⟨i0, hi, hz0, hz1, hz2⟩ := info_parts infoEnt
  have HSM := Lib.hid hsm
  have HV := Lib.hid hv
  have HS := Lib.hid hsz
  have HR := Lib.hid hr
  clear hsm hv hsz hr
  go_enter Tryd.func10, Tryd.ntmps10
  go_wp2_with fail
  go_at_call 12; refine (awake_any _).mono ?_; rintro e w1 ⟨rfl, hb1⟩
  go_wp2_with fail
  go_at_call 17; refine (small_any l A c _ ((HR.out).later hb1) (fun e h => by have := HS.out e h; unfold maxLen; omega)).mono ?_; rw [HSM.out]; rintro e w2 ⟨rfl, rfl⟩
  go_wp2_with fail
  go_at_call 19; refine (valid_any l A c _ (fun e h => by have := (HS.out e h).1; omega) hle ((HR.out).later hb1)).mono ?_; rw [HV.out]; rintro e w3 ⟨rfl, hb3⟩
  go_wp2_with fail
  obtain ⟨W1, hW1⟩ : ∃ W1 : World, W1 = (w3.alloc (.cells #[str [122, 101, 98, 114, 97], .int .u8 1, str [122, 101, 98, 114, 97]] 39)).alloc (.cells #[str [65, 110, 110], str [46], str [46]] 9) := ⟨_, rfl⟩
  have hb4 : Below w3.heap.size w3 W1 := by rw [hW1]; exact ((Below.refl _ _).alloc (Nat.le_refl _) _).alloc (by simp) _
  have hbk : Blk W1 w3.heap.size 39 #[str [122, 101, 98, 114, 97], .int .u8 1, str [122, 101, 98, 114, 97]] := by rw [hW1]; exact (Blk.new w3 _ _).alloc _
  have hbt : Blk W1 (w3.heap.size + 1) 9 (([[65, 110, 110], [46], [46]] : List (List UInt8)).map str).toArray := by rw [hW1]; have h := Blk.new (w3.alloc (.cells #[str [122, 101, 98, 114, 97], .int .u8 1, str [122, 101, 98, 114, 97]] 39)) 9 #[str [65, 110, 110], str [46], str [46]]; rw [World.size_alloc] at h; exact h
  have HTX : Hid (∀ W, Below W1.heap.size W1 W → Calls Tryd.prog 14 #[.slice (some ⟨w3.heap.size + 1, 0, none⟩) 3 3] W fun e w' => e = .returned (.tuple #[str [], .int .i64 2]) ∧ Below W.heap.size W w') := fun W hb => text_no [[65, 110, 110], [46], [46]] (some ⟨w3.heap.size + 1, 0, none⟩) 3 W (by kernel_rfl) (by simp) (by simp) (by simp) (blk_reads (hbt.later hb) (by simp))
  clear hbt
  have HRT : Hid (rightL ([122, 101, 98, 114, 97], 1, [122, 101, 98, 114, 97]) = false) := (by kernel_rfl : rightL ([122, 101, 98, 114, 97], 1, [122, 101, 98, 114, 97]) = false)
  have hbw := below_then hb1 (below_then hb3 hb4)
  have HRl := Lib.hid ((HR.out).later hbw)
  have HLW : Hid (∀ x ∈ l, x.1.length ≤ 1048576) := fun x h => by have := (HS.out x h).1; omega
  have HADD : Hid (Calls Tryd.prog 26 #[.slice A l.length c, .agg #[str [122, 101, 98, 114, 97], .int .u8 1, str [122, 101, 98, 114, 97]]] W1 fun e' w' => e' = .returned (.tuple #[.slice none 0 0, .int .i64 2]) ∧ Below W1.heap.size W1 w') := add_bad l ([122, 101, 98, 114, 97], 1, [122, 101, 98, 114, 97]) A c W1 (by omega) HLW.out hle HRl.out (by simp) (by rw [HRT.out, Bool.and_false])
  have HRIG : Hid (∀ W : World, Calls Tryd.prog 27 #[.agg #[str [122, 101, 98, 114, 97], .int .u8 1, str [122, 101, 98, 114, 97]]] W fun e' w' => e' = .returned (.bool false) ∧ Below W.heap.size W w') := fun W => (right_any [122, 101, 98, 114, 97] 1 [122, 101, 98, 114, 97] W (by simp)).mono fun e' w' h => by rw [show rightL ([122, 101, 98, 114, 97], 1, [122, 101, 98, 114, 97]) = false from HRT.out] at h; exact h
  rw [← hW1]
  clear hW1
  refine (HADD.out).mono ?_; rintro e w4 ⟨rfl, hb5⟩
  have hbk4 := hbk.later hb5
  have k0 := hbk4.cell 0
  have k1 := hbk4.cell 1
  have k2 := hbk4.cell 2
  simp only [List.getElem?_toArray, List.getElem?_cons_zero, List.getElem?_cons_succ] at k0 k1 k2
  have HRW := Lib.hid ((HRl.out).later hb5)
  go_wp2_with fail
  refine wp_region_held_drew (S := fun W => Below w4.heap.size w4 W) (by kernel_rfl) (by exact (Below.refl _ _).drew) (fun hHeld => ?_)
  refine wpAnyH_take (i := 1) (oi := { dst := some 71, op := Op.move (Operand.tmp 0), type := 33, pos := "outright.go:207", after := #[], guard := none }) (v := ?v16_1) (by kernel_rfl) (by kernel_rfl) (by kernel_rfl) (by kernel_rfl) (fun _ _ _ h => h) (Or.inl ⟨by kernel_rfl, ?h16_1⟩) hHeld ?r16_1
  case h16_1 => (intro w hSw; (try dsimp only at hSw); go_simp; try with_reducible rfl)
  try simp only [Act.put, List.setIfInBounds_toArray, List.set_cons_zero, List.set_cons_succ]
  refine wpAnyH_take (i := 3) (oi := { dst := some 73, op := Op.load 39 (Operand.tmp 5), type := 39, pos := "outright.go:207", after := #[], guard := none }) (v := ?v16_3) (by kernel_rfl) (by kernel_rfl) (by kernel_rfl) (by kernel_rfl) (fun _ _ _ h => h) (Or.inl ⟨by kernel_rfl, ?h16_3⟩) hHeld ?r16_3
  case h16_3 => (intro w hSw; (try dsimp only at hSw); have m0 := (hSw.cell (p := ⟨w3.heap.size, 0, none⟩) hbk4.lt).trans k0; have m1 := (hSw.cell (p := ⟨w3.heap.size, 1, none⟩) hbk4.lt).trans k1; have m2 := (hSw.cell (p := ⟨w3.heap.size, 2, none⟩) hbk4.lt).trans k2; go_simp; try with_reducible rfl)
  try simp only [Act.put, List.setIfInBounds_toArray, List.set_cons_zero, List.set_cons_succ]
  refine wpAnyH_ready (rs := [0, 4]) (by kernel_rfl) (by simp) ?_
  refine AllReadyH.cons (i := 0) (o := { dst := some 70, op := Op.buildSlice 33 0 #[], type := 33, pos := "outright.go:207", after := #[], guard := none }) rfl (fun K hK => ?_) (AllReadyH.cons (i := 4) (o := { dst := some 74, op := Op.buildSlice 33 1 #[(0, Operand.tmp 73)], type := 33, pos := "outright.go:207", after := #[{ on := 3, ground := Ground.data }], guard := none }) rfl (fun K hK => ?_) AllReadyH.nil)
  · skip
    go_simp
    have HR0 := (own_empty w4 w4.heap.size 39 (Nat.le_refl _)).drew
    have hKeep := Below.alloc hHeld hHeld.size (.cells #[] 39)
    refine hK.out _ _ (by exact hKeep) (fun hHeld => ?_)
    clear hK K
    try simp only [Act.put, List.setIfInBounds_toArray, List.set_cons_zero, List.set_cons_succ]
    refine wpAnyH_ready (rs := [2, 4]) (by kernel_rfl) (by simp) ?_
    refine AllReadyH.cons (i := 2) (o := { dst := some 72, op := Op.call { callee := Callee.builtin Builtin.append, args := #[Operand.tmp 70, Operand.tmp 71], argTypes := #[33, 33] }, type := 33, pos := "outright.go:207", after := #[{ on := 0, ground := Ground.data }, { on := 1, ground := Ground.data }], guard := none }) rfl (fun K hK => ?_) (AllReadyH.cons (i := 4) (o := { dst := some 74, op := Op.buildSlice 33 1 #[(0, Operand.tmp 73)], type := 33, pos := "outright.go:207", after := #[{ on := 3, ground := Ground.data }], guard := none }) rfl (fun K hK => ?_) AllReadyH.nil)
    · skip
      refine step_append_any _ (by rfl) _ _ _ (by rfl) w4.heap.size 39 i0 _ 3 40 Tryd.underlying33 hi hz0 hz1 hz2 rfl (by decide) _ 0 [] (by rfl) HR0 _ A l.length c (flat l) (by rfl) (HRW.out.below hHeld) (flat_one l) (by unfold maxLen; omega) (by omega) hHeld.size ?_
      intro v5 w5 hown5 hg5 hat5
      have hKeep : Below w4.heap.size w4 w5 := hHeld.grown hg5 hHeld.size (own_ge HR0)
      refine hK.out _ _ (by exact hKeep) (fun hHeld => ?_)
      clear hK K
      try simp only [Act.put, List.setIfInBounds_toArray, List.set_cons_zero, List.set_cons_succ]
      refine wpAnyH_ready (rs := [4]) (by kernel_rfl) (by simp) ?_
      refine AllReadyH.cons (i := 4) (o := { dst := some 74, op := Op.buildSlice 33 1 #[(0, Operand.tmp 73)], type := 33, pos := "outright.go:207", after := #[{ on := 3, ground := Ground.data }], guard := none }) rfl (fun K hK => ?_) AllReadyH.nil
      go_simp
      have HB4 := Blk.new w5 39 #[str [122, 101, 98, 114, 97], .int .u8 1, str [122, 101, 98, 114, 97]]
      have HO := hown5.alloc (.cells #[str [122, 101, 98, 114, 97], .int .u8 1, str [122, 101, 98, 114, 97]] 39)
      have hKeep := Below.alloc hHeld hHeld.size (.cells #[str [122, 101, 98, 114, 97], .int .u8 1, str [122, 101, 98, 114, 97]] 39)
      refine hK.out _ _ (by exact hKeep) (fun hHeld => ?_)
      clear hK K
      try simp only [Act.put, List.setIfInBounds_toArray, List.set_cons_zero, List.set_cons_succ]
      refine wpAnyH_ready (rs := [5]) (by kernel_rfl) (by simp) ?_
      refine AllReadyH.cons (i := 5) (o := { dst := some 75, op := Op.call { callee := Callee.builtin Builtin.append, args := #[Operand.tmp 72, Operand.tmp 74], argTypes := #[33, 33] }, type := 33, pos := "outright.go:207", after := #[{ on := 2, ground := Ground.data }, { on := 4, ground := Ground.data }, { on := 2, ground := Ground.chain }], guard := none }) rfl (fun K hK => ?_) AllReadyH.nil
      refine step_append_any _ (by rfl) _ _ _ (by rfl) w4.heap.size 39 i0 _ 3 40 Tryd.underlying33 hi hz0 hz1 hz2 rfl (by decide) v5 (0 + l.length) ([] ++ flat l) (by rfl) HO _ (some ⟨w5.heap.size, 0, none⟩) 1 1 [str [122, 101, 98, 114, 97], .int .u8 1, str [122, 101, 98, 114, 97]] (by rfl) (blk_reads HB4 rfl) (by simp [Value.oneCell']) (by unfold maxLen; omega) (by omega) hHeld.size ?_
      intro v6 w6 hown6 hg6 hat6
      obtain ⟨A6, c6, rfl, hc6⟩ := own_form hown6
      have HRD6 := Reads.of_own hown6
      rw [Nat.zero_add, List.nil_append] at HRD6
      have hKeep : Below w4.heap.size w4 w6 := hHeld.grown hg6 hHeld.size (own_ge HO)
      refine hK.out _ _ (by exact hKeep) (fun hHeld => ?_)
      clear hK K
      try simp only [Act.put, List.setIfInBounds_toArray, List.set_cons_zero, List.set_cons_succ]
      refine wpAnyH_ready (rs := [6]) (by kernel_rfl) (by simp) ?_
      refine AllReadyH.cons (i := 6) (o := { dst := some 76, op := Op.call { callee := Callee.value (Operand.func 18), args := #[Operand.tmp 75, Operand.const (Value.string { data := #[122, 101, 98, 114, 97] })], argTypes := #[33, 9] }, type := 36, pos := "outright.go:207", after := #[{ on := 5, ground := Ground.data }, { on := 5, ground := Ground.chain }], guard := none }) rfl (fun K hK => ?_) AllReadyH.nil
      go_simp
      refine (look_bad l ([122, 101, 98, 114, 97], 1, [122, 101, 98, 114, 97]) [122, 101, 98, 114, 97] A6 (l.length + 1) c6 w6 rfl HRT.out HLW.out (by simp) (by omega) _ rfl HRD6).mono ?_
      rintro e6 w7 ⟨A7, c7, rfl, hb7⟩
      have hKeep : Below w4.heap.size w4 w7 := hHeld.trans (hb7.mono hHeld.size)
      go_wp2_with fail
      refine hK.out _ _ (by exact hKeep) (fun hHeld => ?_)
      clear hK K
      try simp only [Act.put, List.setIfInBounds_toArray, List.set_cons_zero, List.set_cons_succ]
      refine wpAnyH_take (i := 7) (oi := { dst := some 69, op := Op.move (Operand.tmp 76), type := 36, pos := "outright.go:207", after := #[{ on := 6, ground := Ground.data }], guard := none }) (v := ?v18_7) (by kernel_rfl) (by kernel_rfl) (by kernel_rfl) (by kernel_rfl) (fun _ _ _ h => h) (Or.inl ⟨by kernel_rfl, ?h18_7⟩) hHeld ?r18_7
      case h18_7 => (intro w hSw; (try dsimp only at hSw); go_simp; try with_reducible rfl)
      try simp only [Act.put, List.setIfInBounds_toArray, List.set_cons_zero, List.set_cons_succ]
      refine wpAnyH_take (i := 8) (oi := { dst := some 77, op := Op.extract (Operand.tmp 69) 0, type := 35, pos := "outright.go:207", after := #[{ on := 7, ground := Ground.data }], guard := none }) (v := ?v18_8) (by kernel_rfl) (by kernel_rfl) (by kernel_rfl) (by kernel_rfl) (fun _ _ _ h => h) (Or.inl ⟨by kernel_rfl, ?h18_8⟩) hHeld ?r18_8
      case h18_8 => (intro w hSw; (try dsimp only at hSw); go_simp; try with_reducible rfl)
      try simp only [Act.put, List.setIfInBounds_toArray, List.set_cons_zero, List.set_cons_succ]
      refine wpAnyH_take (i := 9) (oi := { dst := some 78, op := Op.extract (Operand.tmp 69) 1, type := 26, pos := "outright.go:207", after := #[{ on := 7, ground := Ground.data }, { on := 10, ground := Ground.gcOnly Departure.lateStores }], guard := none }) (v := ?v18_9) (by kernel_rfl) (by kernel_rfl) (by kernel_rfl) (by kernel_rfl) (fun _ _ _ h => h) (Or.inl ⟨by kernel_rfl, ?h18_9⟩) hHeld ?r18_9
      case h18_9 => (intro w hSw; (try dsimp only at hSw); go_simp; try with_reducible rfl)
      try simp only [Act.put, List.setIfInBounds_toArray, List.set_cons_zero, List.set_cons_succ]
      refine wpAnyH_take (i := 10) (oi := { dst := some 9, op := Op.assign (Operand.tmp 77), type := 35, pos := "outright.go:207", after := #[{ on := 8, ground := Ground.data }, { on := 6, ground := Ground.chain }, { on := 0, ground := Ground.phase }, { on := 1, ground := Ground.phase }, { on := 2, ground := Ground.phase }, { on := 3, ground := Ground.phase }, { on := 4, ground := Ground.phase }, { on := 5, ground := Ground.phase }, { on := 6, ground := Ground.phase }, { on := 7, ground := Ground.phase }, { on := 8, ground := Ground.phase }, { on := 9, ground := Ground.textOnly Departure.lateStores }], guard := none }) (v := ?v18_10) (by kernel_rfl) (by kernel_rfl) (by kernel_rfl) (by kernel_rfl) (fun _ _ _ h => h) (Or.inl ⟨by kernel_rfl, ?h18_10⟩) hHeld ?r18_10
      case h18_10 => (intro w hSw; (try dsimp only at hSw); go_simp; try with_reducible rfl)
      try simp only [Act.put, List.setIfInBounds_toArray, List.set_cons_zero, List.set_cons_succ]
      refine wpAnyH_take (i := 11) (oi := { dst := some 10, op := Op.assign (Operand.tmp 78), type := 26, pos := "outright.go:207", after := #[{ on := 9, ground := Ground.data }, { on := 10, ground := Ground.chain }, { on := 0, ground := Ground.phase }, { on := 1, ground := Ground.phase }, { on := 2, ground := Ground.phase }, { on := 3, ground := Ground.phase }, { on := 4, ground := Ground.phase }, { on := 5, ground := Ground.phase }, { on := 6, ground := Ground.phase }, { on := 7, ground := Ground.phase }, { on := 8, ground := Ground.phase }, { on := 9, ground := Ground.phase }, { on := 10, ground := Ground.phase }], guard := none }) (v := ?v18_11) (by kernel_rfl) (by kernel_rfl) (by kernel_rfl) (by kernel_rfl) (fun _ _ _ h => h) (Or.inl ⟨by kernel_rfl, ?h18_11⟩) hHeld ?r18_11
      case h18_11 => (intro w hSw; (try dsimp only at hSw); go_simp; try with_reducible rfl)
      try simp only [Act.put, List.setIfInBounds_toArray, List.set_cons_zero, List.set_cons_succ]
      refine wpAnyH_done (by kernel_rfl) ?_ _
      go_wp2_with fail
      go_at_call 14; refine ((HTX.out) _ (below_then hb5 hHeld)).mono ?_; rintro e w8 ⟨rfl, hb8⟩
      have hbk8 := (hbk4.later hHeld).later hb8
      have q0 := hbk8.cell 0
      have q1 := hbk8.cell 1
      have q2 := hbk8.cell 2
      simp only [List.getElem?_toArray, List.getElem?_cons_zero, List.getElem?_cons_succ] at q0 q1 q2
      go_wp2_with fail
      go_at_call 27; refine ((HRIG.out) _).mono ?_; rintro e w9 ⟨rfl, hb9⟩
      go_wp2_with fail
      go_ret
      exact ⟨rfl, below_then hbw (below_then hb5 (below_then hHeld (below_then hb8 hb9)))⟩
    · skip
      go_simp
      have HB4 : Blk ((w4.alloc (.cells #[] 39)).alloc (.cells #[str [122, 101, 98, 114, 97], .int .u8 1, str [122, 101, 98, 114, 97]] 39)).drew (w4.heap.size + 1) 39 #[str [122, 101, 98, 114, 97], .int .u8 1, str [122, 101, 98, 114, 97]] := (by have h := Blk.new (w4.alloc (.cells #[] 39)) 39 #[str [122, 101, 98, 114, 97], .int .u8 1, str [122, 101, 98, 114, 97]]; rw [World.size_alloc] at h; exact h.drew)
      have HR1 := (HR0.alloc (.cells #[str [122, 101, 98, 114, 97], .int .u8 1, str [122, 101, 98, 114, 97]] 39))
      have hKeep := Below.alloc hHeld hHeld.size (.cells #[str [122, 101, 98, 114, 97], .int .u8 1, str [122, 101, 98, 114, 97]] 39)
      refine hK.out _ _ (by exact hKeep) (fun hHeld => ?_)
      clear hK K
      try simp only [Act.put, List.setIfInBounds_toArray, List.set_cons_zero, List.set_cons_succ]
      refine wpAnyH_ready (rs := [2]) (by kernel_rfl) (by simp) ?_
      refine AllReadyH.cons (i := 2) (o := { dst := some 72, op := Op.call { callee := Callee.builtin Builtin.append, args := #[Operand.tmp 70, Operand.tmp 71], argTypes := #[33, 33] }, type := 33, pos := "outright.go:207", after := #[{ on := 0, ground := Ground.data }, { on := 1, ground := Ground.data }], guard := none }) rfl (fun K hK => ?_) AllReadyH.nil
      refine step_append_any _ (by rfl) _ _ _ (by rfl) w4.heap.size 39 i0 _ 3 40 Tryd.underlying33 hi hz0 hz1 hz2 rfl (by decide) _ 0 [] (by rfl) HR1 _ A l.length c (flat l) (by rfl) (HRW.out.below hHeld) (flat_one l) (by unfold maxLen; omega) (by omega) hHeld.size ?_
      intro v5 w5 hown5 hg5 hat5
      have hKeep : Below w4.heap.size w4 w5 := hHeld.grown hg5 hHeld.size (own_ge HR1)
      have HB5 := HB4.grown hg5 (by simp [Value.ownBlock])
      refine hK.out _ _ (by exact hKeep) (fun hHeld => ?_)
      clear hK K
      try simp only [Act.put, List.setIfInBounds_toArray, List.set_cons_zero, List.set_cons_succ]
      refine wpAnyH_ready (rs := [5]) (by kernel_rfl) (by simp) ?_
      refine AllReadyH.cons (i := 5) (o := { dst := some 75, op := Op.call { callee := Callee.builtin Builtin.append, args := #[Operand.tmp 72, Operand.tmp 74], argTypes := #[33, 33] }, type := 33, pos := "outright.go:207", after := #[{ on := 2, ground := Ground.data }, { on := 4, ground := Ground.data }, { on := 2, ground := Ground.chain }], guard := none }) rfl (fun K hK => ?_) AllReadyH.nil
      refine step_append_any _ (by rfl) _ _ _ (by rfl) w4.heap.size 39 i0 _ 3 40 Tryd.underlying33 hi hz0 hz1 hz2 rfl (by decide) v5 (0 + l.length) ([] ++ flat l) (by rfl) hown5 _ (some ⟨(w4.heap.size + 1), 0, none⟩) 1 1 [str [122, 101, 98, 114, 97], .int .u8 1, str [122, 101, 98, 114, 97]] (by rfl) (blk_reads HB5 rfl) (by simp [Value.oneCell']) (by unfold maxLen; omega) (by omega) hHeld.size ?_
      intro v6 w6 hown6 hg6 hat6
      obtain ⟨A6, c6, rfl, hc6⟩ := own_form hown6
      have HRD6 := Reads.of_own hown6
      rw [Nat.zero_add, List.nil_append] at HRD6
      have hKeep : Below w4.heap.size w4 w6 := hHeld.grown hg6 hHeld.size (own_ge hown5)
      refine hK.out _ _ (by exact hKeep) (fun hHeld => ?_)
      clear hK K
      try simp only [Act.put, List.setIfInBounds_toArray, List.set_cons_zero, List.set_cons_succ]
      refine wpAnyH_ready (rs := [6]) (by kernel_rfl) (by simp) ?_
      refine AllReadyH.cons (i := 6) (o := { dst := some 76, op := Op.call { callee := Callee.value (Operand.func 18), args := #[Operand.tmp 75, Operand.const (Value.string { data := #[122, 101, 98, 114, 97] })], argTypes := #[33, 9] }, type := 36, pos := "outright.go:207", after := #[{ on := 5, ground := Ground.data }, { on := 5, ground := Ground.chain }], guard := none }) rfl (fun K hK => ?_) AllReadyH.nil
      go_simp
      refine (look_bad l ([122, 101, 98, 114, 97], 1, [122, 101, 98, 114, 97]) [122, 101, 98, 114, 97] A6 (l.length + 1) c6 w6 rfl HRT.out HLW.out (by simp) (by omega) _ rfl HRD6).mono ?_
      rintro e6 w7 ⟨A7, c7, rfl, hb7⟩
      have hKeep : Below w4.heap.size w4 w7 := hHeld.trans (hb7.mono hHeld.size)
      go_wp2_with fail
      refine hK.out _ _ (by exact hKeep) (fun hHeld => ?_)
      clear hK K
      try simp only [Act.put, List.setIfInBounds_toArray, List.set_cons_zero, List.set_cons_succ]
      refine wpAnyH_take (i := 7) (oi := { dst := some 69, op := Op.move (Operand.tmp 76), type := 36, pos := "outright.go:207", after := #[{ on := 6, ground := Ground.data }], guard := none }) (v := ?v19_7) (by kernel_rfl) (by kernel_rfl) (by kernel_rfl) (by kernel_rfl) (fun _ _ _ h => h) (Or.inl ⟨by kernel_rfl, ?h19_7⟩) hHeld ?r19_7
      case h19_7 => (intro w hSw; (try dsimp only at hSw); go_simp; try with_reducible rfl)
      try simp only [Act.put, List.setIfInBounds_toArray, List.set_cons_zero, List.set_cons_succ]
      refine wpAnyH_take (i := 8) (oi := { dst := some 77, op := Op.extract (Operand.tmp 69) 0, type := 35, pos := "outright.go:207", after := #[{ on := 7, ground := Ground.data }], guard := none }) (v := ?v19_8) (by kernel_rfl) (by kernel_rfl) (by kernel_rfl) (by kernel_rfl) (fun _ _ _ h => h) (Or.inl ⟨by kernel_rfl, ?h19_8⟩) hHeld ?r19_8
      case h19_8 => (intro w hSw; (try dsimp only at hSw); go_simp; try with_reducible rfl)
      try simp only [Act.put, List.setIfInBounds_toArray, List.set_cons_zero, List.set_cons_succ]
      refine wpAnyH_take (i := 9) (oi := { dst := some 78, op := Op.extract (Operand.tmp 69) 1, type := 26, pos := "outright.go:207", after := #[{ on := 7, ground := Ground.data }, { on := 10, ground := Ground.gcOnly Departure.lateStores }], guard := none }) (v := ?v19_9) (by kernel_rfl) (by kernel_rfl) (by kernel_rfl) (by kernel_rfl) (fun _ _ _ h => h) (Or.inl ⟨by kernel_rfl, ?h19_9⟩) hHeld ?r19_9
      case h19_9 => (intro w hSw; (try dsimp only at hSw); go_simp; try with_reducible rfl)
      try simp only [Act.put, List.setIfInBounds_toArray, List.set_cons_zero, List.set_cons_succ]
      refine wpAnyH_take (i := 10) (oi := { dst := some 9, op := Op.assign (Operand.tmp 77), type := 35, pos := "outright.go:207", after := #[{ on := 8, ground := Ground.data }, { on := 6, ground := Ground.chain }, { on := 0, ground := Ground.phase }, { on := 1, ground := Ground.phase }, { on := 2, ground := Ground.phase }, { on := 3, ground := Ground.phase }, { on := 4, ground := Ground.phase }, { on := 5, ground := Ground.phase }, { on := 6, ground := Ground.phase }, { on := 7, ground := Ground.phase }, { on := 8, ground := Ground.phase }, { on := 9, ground := Ground.textOnly Departure.lateStores }], guard := none }) (v := ?v19_10) (by kernel_rfl) (by kernel_rfl) (by kernel_rfl) (by kernel_rfl) (fun _ _ _ h => h) (Or.inl ⟨by kernel_rfl, ?h19_10⟩) hHeld ?r19_10
      case h19_10 => (intro w hSw; (try dsimp only at hSw); go_simp; try with_reducible rfl)
      try simp only [Act.put, List.setIfInBounds_toArray, List.set_cons_zero, List.set_cons_succ]
      refine wpAnyH_take (i := 11) (oi := { dst := some 10, op := Op.assign (Operand.tmp 78), type := 26, pos := "outright.go:207", after := #[{ on := 9, ground := Ground.data }, { on := 10, ground := Ground.chain }, { on := 0, ground := Ground.phase }, { on := 1, ground := Ground.phase }, { on := 2, ground := Ground.phase }, { on := 3, ground := Ground.phase }, { on := 4, ground := Ground.phase }, { on := 5, ground := Ground.phase }, { on := 6, ground := Ground.phase }, { on := 7, ground := Ground.phase }, { on := 8, ground := Ground.phase }, { on := 9, ground := Ground.phase }, { on := 10, ground := Ground.phase }], guard := none }) (v := ?v19_11) (by kernel_rfl) (by kernel_rfl) (by kernel_rfl) (by kernel_rfl) (fun _ _ _ h => h) (Or.inl ⟨by kernel_rfl, ?h19_11⟩) hHeld ?r19_11
      case h19_11 => (intro w hSw; (try dsimp only at hSw); go_simp; try with_reducible rfl)
      try simp only [Act.put, List.setIfInBounds_toArray, List.set_cons_zero, List.set_cons_succ]
      refine wpAnyH_done (by kernel_rfl) ?_ _
      go_wp2_with fail
      go_at_call 14; refine ((HTX.out) _ (below_then hb5 hHeld)).mono ?_; rintro e w8 ⟨rfl, hb8⟩
      have hbk8 := (hbk4.later hHeld).later hb8
      have q0 := hbk8.cell 0
      have q1 := hbk8.cell 1
      have q2 := hbk8.cell 2
      simp only [List.getElem?_toArray, List.getElem?_cons_zero, List.getElem?_cons_succ] at q0 q1 q2
      go_wp2_with fail
      go_at_call 27; refine ((HRIG.out) _).mono ?_; rintro e w9 ⟨rfl, hb9⟩
      go_wp2_with fail
      go_ret
      exact ⟨rfl, below_then hbw (below_then hb5 (below_then hHeld (below_then hb8 hb9)))⟩
  · skip
    go_simp
    have HB4 := (Blk.new w4 39 #[str [122, 101, 98, 114, 97], .int .u8 1, str [122, 101, 98, 114, 97]]).drew
    have hKeep := Below.alloc hHeld hHeld.size (.cells #[str [122, 101, 98, 114, 97], .int .u8 1, str [122, 101, 98, 114, 97]] 39)
    refine hK.out _ _ (by exact hKeep) (fun hHeld => ?_)
    clear hK K
    try simp only [Act.put, List.setIfInBounds_toArray, List.set_cons_zero, List.set_cons_succ]
    refine wpAnyH_ready (rs := [0]) (by kernel_rfl) (by simp) ?_
    refine AllReadyH.cons (i := 0) (o := { dst := some 70, op := Op.buildSlice 33 0 #[], type := 33, pos := "outright.go:207", after := #[], guard := none }) rfl (fun K hK => ?_) AllReadyH.nil
    go_simp
    have HR1 : ((w4.alloc (.cells #[str [122, 101, 98, 114, 97], .int .u8 1, str [122, 101, 98, 114, 97]] 39)).alloc (.cells #[] 39)).drew.ownsRow w4.heap.size 39 3 (.slice (some ⟨w4.heap.size + 1, 0, none⟩) 0 0) 0 [] := (by have h := (own_empty (w4.alloc (.cells #[str [122, 101, 98, 114, 97], .int .u8 1, str [122, 101, 98, 114, 97]] 39)) w4.heap.size 39 (by simp)).drew; rw [World.size_alloc] at h; exact h)
    have HB5 := HB4.alloc (.cells #[] 39)
    have hKeep := Below.alloc hHeld hHeld.size (.cells #[] 39)
    refine hK.out _ _ (by exact hKeep) (fun hHeld => ?_)
    clear hK K
    try simp only [Act.put, List.setIfInBounds_toArray, List.set_cons_zero, List.set_cons_succ]
    refine wpAnyH_ready (rs := [2]) (by kernel_rfl) (by simp) ?_
    refine AllReadyH.cons (i := 2) (o := { dst := some 72, op := Op.call { callee := Callee.builtin Builtin.append, args := #[Operand.tmp 70, Operand.tmp 71], argTypes := #[33, 33] }, type := 33, pos := "outright.go:207", after := #[{ on := 0, ground := Ground.data }, { on := 1, ground := Ground.data }], guard := none }) rfl (fun K hK => ?_) AllReadyH.nil
    refine step_append_any _ (by rfl) _ _ _ (by rfl) w4.heap.size 39 i0 _ 3 40 Tryd.underlying33 hi hz0 hz1 hz2 rfl (by decide) _ 0 [] (by rfl) HR1 _ A l.length c (flat l) (by rfl) (HRW.out.below hHeld) (flat_one l) (by unfold maxLen; omega) (by omega) hHeld.size ?_
    intro v5 w5 hown5 hg5 hat5
    have hKeep : Below w4.heap.size w4 w5 := hHeld.grown hg5 hHeld.size (own_ge HR1)
    have HB6 := HB5.grown hg5 (by simp [Value.ownBlock])
    refine hK.out _ _ (by exact hKeep) (fun hHeld => ?_)
    clear hK K
    try simp only [Act.put, List.setIfInBounds_toArray, List.set_cons_zero, List.set_cons_succ]
    refine wpAnyH_ready (rs := [5]) (by kernel_rfl) (by simp) ?_
    refine AllReadyH.cons (i := 5) (o := { dst := some 75, op := Op.call { callee := Callee.builtin Builtin.append, args := #[Operand.tmp 72, Operand.tmp 74], argTypes := #[33, 33] }, type := 33, pos := "outright.go:207", after := #[{ on := 2, ground := Ground.data }, { on := 4, ground := Ground.data }, { on := 2, ground := Ground.chain }], guard := none }) rfl (fun K hK => ?_) AllReadyH.nil
    refine step_append_any _ (by rfl) _ _ _ (by rfl) w4.heap.size 39 i0 _ 3 40 Tryd.underlying33 hi hz0 hz1 hz2 rfl (by decide) v5 (0 + l.length) ([] ++ flat l) (by rfl) hown5 _ (some ⟨w4.heap.size, 0, none⟩) 1 1 [str [122, 101, 98, 114, 97], .int .u8 1, str [122, 101, 98, 114, 97]] (by rfl) (blk_reads HB6 rfl) (by simp [Value.oneCell']) (by unfold maxLen; omega) (by omega) hHeld.size ?_
    intro v6 w6 hown6 hg6 hat6
    obtain ⟨A6, c6, rfl, hc6⟩ := own_form hown6
    have HRD6 := Reads.of_own hown6
    rw [Nat.zero_add, List.nil_append] at HRD6
    have hKeep : Below w4.heap.size w4 w6 := hHeld.grown hg6 hHeld.size (own_ge hown5)
    refine hK.out _ _ (by exact hKeep) (fun hHeld => ?_)
    clear hK K
    try simp only [Act.put, List.setIfInBounds_toArray, List.set_cons_zero, List.set_cons_succ]
    refine wpAnyH_ready (rs := [6]) (by kernel_rfl) (by simp) ?_
    refine AllReadyH.cons (i := 6) (o := { dst := some 76, op := Op.call { callee := Callee.value (Operand.func 18), args := #[Operand.tmp 75, Operand.const (Value.string { data := #[122, 101, 98, 114, 97] })], argTypes := #[33, 9] }, type := 36, pos := "outright.go:207", after := #[{ on := 5, ground := Ground.data }, { on := 5, ground := Ground.chain }], guard := none }) rfl (fun K hK => ?_) AllReadyH.nil
    go_simp
    refine (look_bad l ([122, 101, 98, 114, 97], 1, [122, 101, 98, 114, 97]) [122, 101, 98, 114, 97] A6 (l.length + 1) c6 w6 rfl HRT.out HLW.out (by simp) (by omega) _ rfl HRD6).mono ?_
    rintro e6 w7 ⟨A7, c7, rfl, hb7⟩
    have hKeep : Below w4.heap.size w4 w7 := hHeld.trans (hb7.mono hHeld.size)
    go_wp2_with fail
    refine hK.out _ _ (by exact hKeep) (fun hHeld => ?_)
    clear hK K
    try simp only [Act.put, List.setIfInBounds_toArray, List.set_cons_zero, List.set_cons_succ]
    refine wpAnyH_take (i := 7) (oi := { dst := some 69, op := Op.move (Operand.tmp 76), type := 36, pos := "outright.go:207", after := #[{ on := 6, ground := Ground.data }], guard := none }) (v := ?v20_7) (by kernel_rfl) (by kernel_rfl) (by kernel_rfl) (by kernel_rfl) (fun _ _ _ h => h) (Or.inl ⟨by kernel_rfl, ?h20_7⟩) hHeld ?r20_7
    case h20_7 => (intro w hSw; (try dsimp only at hSw); go_simp; try with_reducible rfl)
    try simp only [Act.put, List.setIfInBounds_toArray, List.set_cons_zero, List.set_cons_succ]
    refine wpAnyH_take (i := 8) (oi := { dst := some 77, op := Op.extract (Operand.tmp 69) 0, type := 35, pos := "outright.go:207", after := #[{ on := 7, ground := Ground.data }], guard := none }) (v := ?v20_8) (by kernel_rfl) (by kernel_rfl) (by kernel_rfl) (by kernel_rfl) (fun _ _ _ h => h) (Or.inl ⟨by kernel_rfl, ?h20_8⟩) hHeld ?r20_8
    case h20_8 => (intro w hSw; (try dsimp only at hSw); go_simp; try with_reducible rfl)
    try simp only [Act.put, List.setIfInBounds_toArray, List.set_cons_zero, List.set_cons_succ]
    refine wpAnyH_take (i := 9) (oi := { dst := some 78, op := Op.extract (Operand.tmp 69) 1, type := 26, pos := "outright.go:207", after := #[{ on := 7, ground := Ground.data }, { on := 10, ground := Ground.gcOnly Departure.lateStores }], guard := none }) (v := ?v20_9) (by kernel_rfl) (by kernel_rfl) (by kernel_rfl) (by kernel_rfl) (fun _ _ _ h => h) (Or.inl ⟨by kernel_rfl, ?h20_9⟩) hHeld ?r20_9
    case h20_9 => (intro w hSw; (try dsimp only at hSw); go_simp; try with_reducible rfl)
    try simp only [Act.put, List.setIfInBounds_toArray, List.set_cons_zero, List.set_cons_succ]
    refine wpAnyH_take (i := 10) (oi := { dst := some 9, op := Op.assign (Operand.tmp 77), type := 35, pos := "outright.go:207", after := #[{ on := 8, ground := Ground.data }, { on := 6, ground := Ground.chain }, { on := 0, ground := Ground.phase }, { on := 1, ground := Ground.phase }, { on := 2, ground := Ground.phase }, { on := 3, ground := Ground.phase }, { on := 4, ground := Ground.phase }, { on := 5, ground := Ground.phase }, { on := 6, ground := Ground.phase }, { on := 7, ground := Ground.phase }, { on := 8, ground := Ground.phase }, { on := 9, ground := Ground.textOnly Departure.lateStores }], guard := none }) (v := ?v20_10) (by kernel_rfl) (by kernel_rfl) (by kernel_rfl) (by kernel_rfl) (fun _ _ _ h => h) (Or.inl ⟨by kernel_rfl, ?h20_10⟩) hHeld ?r20_10
    case h20_10 => (intro w hSw; (try dsimp only at hSw); go_simp; try with_reducible rfl)
    try simp only [Act.put, List.setIfInBounds_toArray, List.set_cons_zero, List.set_cons_succ]
    refine wpAnyH_take (i := 11) (oi := { dst := some 10, op := Op.assign (Operand.tmp 78), type := 26, pos := "outright.go:207", after := #[{ on := 9, ground := Ground.data }, { on := 10, ground := Ground.chain }, { on := 0, ground := Ground.phase }, { on := 1, ground := Ground.phase }, { on := 2, ground := Ground.phase }, { on := 3, ground := Ground.phase }, { on := 4, ground := Ground.phase }, { on := 5, ground := Ground.phase }, { on := 6, ground := Ground.phase }, { on := 7, ground := Ground.phase }, { on := 8, ground := Ground.phase }, { on := 9, ground := Ground.phase }, { on := 10, ground := Ground.phase }], guard := none }) (v := ?v20_11) (by kernel_rfl) (by kernel_rfl) (by kernel_rfl) (by kernel_rfl) (fun _ _ _ h => h) (Or.inl ⟨by kernel_rfl, ?h20_11⟩) hHeld ?r20_11
    case h20_11 => (intro w hSw; (try dsimp only at hSw); go_simp; try with_reducible rfl)
    try simp only [Act.put, List.setIfInBounds_toArray, List.set_cons_zero, List.set_cons_succ]
    refine wpAnyH_done (by kernel_rfl) ?_ _
    go_wp2_with fail
    go_at_call 14; refine ((HTX.out) _ (below_then hb5 hHeld)).mono ?_; rintro e w8 ⟨rfl, hb8⟩
    have hbk8 := (hbk4.later hHeld).later hb8
    have q0 := hbk8.cell 0
    have q1 := hbk8.cell 1
    have q2 := hbk8.cell 2
    simp only [List.getElem?_toArray, List.getElem?_cons_zero, List.getElem?_cons_succ] at q0 q1 q2
    go_wp2_with fail
    go_at_call 27; refine ((HRIG.out) _).mono ?_; rintro e w9 ⟨rfl, hb9⟩
    go_wp2_with fail
    go_ret
    exact ⟨rfl, below_then hbw (below_then hb5 (below_then hHeld (below_then hb8 hb9)))⟩
set_option maxRecDepth 100000 in
set_option maxHeartbeats 6400000 in
theorem wrong_4 (l : List Ent) (f : Int) (A : Option Addr) (c : Nat) (w : World) (h0 : 0 ≤ f) (h1 : f < 256) (hf : f % 8 = 4) (hv : validL l = true) (hsm : smallL l = true) (hr : Reads w w.heap.size 3 A l.length (flat l)) (hle : l.length ≤ c) :
    Calls Tryd.prog 10 #[.slice A l.length c, .int .u8 f] w fun e w' => e = .returned (.bool true) ∧ Below w.heap.size w w' := by
  obtain ⟨hl, hsz⟩ := small_each hsm
  obtain ⟨i0, hi, hz0, hz1, hz2⟩ := info_parts infoEnt
  have HSM := Lib.hid hsm
  have HV := Lib.hid hv
  have HS := Lib.hid hsz
  have HR := Lib.hid hr
  clear hsm hv hsz hr
  go_enter Tryd.func10, Tryd.ntmps10
  go_wp2_with fail
  go_at_call 12; refine (awake_any _).mono ?_; rintro e w1 ⟨rfl, hb1⟩
  go_wp2_with fail
  go_at_call 17; refine (small_any l A c _ ((HR.out).later hb1) (fun e h => by have := HS.out e h; unfold maxLen; omega)).mono ?_; rw [HSM.out]; rintro e w2 ⟨rfl, rfl⟩
  go_wp2_with fail
  go_at_call 19; refine (valid_any l A c _ (fun e h => by have := (HS.out e h).1; omega) hle ((HR.out).later hb1)).mono ?_; rw [HV.out]; rintro e w3 ⟨rfl, hb3⟩
  go_wp2_with fail
  obtain ⟨W1, hW1⟩ : ∃ W1 : World, W1 = (w3.alloc (.cells #[str [122, 101, 98, 114, 97], .int .u8 0, str [90, 101, 98, 114, 97]] 39)).alloc (.cells #[str [65, 110, 110], str [115, 108, 101, 101, 112, 115], str [44]] 9) := ⟨_, rfl⟩
  have hb4 : Below w3.heap.size w3 W1 := by rw [hW1]; exact ((Below.refl _ _).alloc (Nat.le_refl _) _).alloc (by simp) _
  have hbk : Blk W1 w3.heap.size 39 #[str [122, 101, 98, 114, 97], .int .u8 0, str [90, 101, 98, 114, 97]] := by rw [hW1]; exact (Blk.new w3 _ _).alloc _
  have hbt : Blk W1 (w3.heap.size + 1) 9 (([[65, 110, 110], [115, 108, 101, 101, 112, 115], [44]] : List (List UInt8)).map str).toArray := by rw [hW1]; have h := Blk.new (w3.alloc (.cells #[str [122, 101, 98, 114, 97], .int .u8 0, str [90, 101, 98, 114, 97]] 39)) 9 #[str [65, 110, 110], str [115, 108, 101, 101, 112, 115], str [44]]; rw [World.size_alloc] at h; exact h
  have HTX : Hid (∀ W, Below W1.heap.size W1 W → Calls Tryd.prog 14 #[.slice (some ⟨w3.heap.size + 1, 0, none⟩) 3 3] W fun e w' => e = .returned (.tuple #[str [], .int .i64 2]) ∧ Below W.heap.size W w') := fun W hb => text_no [[65, 110, 110], [115, 108, 101, 101, 112, 115], [44]] (some ⟨w3.heap.size + 1, 0, none⟩) 3 W (by kernel_rfl) (by simp) (by simp) (by simp) (blk_reads (hbt.later hb) (by simp))
  clear hbt
  have HRT : Hid (rightL ([122, 101, 98, 114, 97], 0, [90, 101, 98, 114, 97]) = false) := (by kernel_rfl : rightL ([122, 101, 98, 114, 97], 0, [90, 101, 98, 114, 97]) = false)
  have hbw := below_then hb1 (below_then hb3 hb4)
  have HRl := Lib.hid ((HR.out).later hbw)
  have HLW : Hid (∀ x ∈ l, x.1.length ≤ 1048576) := fun x h => by have := (HS.out x h).1; omega
  have HADD : Hid (Calls Tryd.prog 26 #[.slice A l.length c, .agg #[str [122, 101, 98, 114, 97], .int .u8 0, str [90, 101, 98, 114, 97]]] W1 fun e' w' => e' = .returned (.tuple #[.slice none 0 0, .int .i64 2]) ∧ Below W1.heap.size W1 w') := add_bad l ([122, 101, 98, 114, 97], 0, [90, 101, 98, 114, 97]) A c W1 (by omega) HLW.out hle HRl.out (by simp) (by rw [HRT.out, Bool.and_false])
  have HRIG : Hid (∀ W : World, Calls Tryd.prog 27 #[.agg #[str [122, 101, 98, 114, 97], .int .u8 0, str [90, 101, 98, 114, 97]]] W fun e' w' => e' = .returned (.bool false) ∧ Below W.heap.size W w') := fun W => (right_any [122, 101, 98, 114, 97] 0 [90, 101, 98, 114, 97] W (by simp)).mono fun e' w' h => by rw [show rightL ([122, 101, 98, 114, 97], 0, [90, 101, 98, 114, 97]) = false from HRT.out] at h; exact h
  rw [← hW1]
  clear hW1
  refine (HADD.out).mono ?_; rintro e w4 ⟨rfl, hb5⟩
  have hbk4 := hbk.later hb5
  have k0 := hbk4.cell 0
  have k1 := hbk4.cell 1
  have k2 := hbk4.cell 2
  simp only [List.getElem?_toArray, List.getElem?_cons_zero, List.getElem?_cons_succ] at k0 k1 k2
  have HRW := Lib.hid ((HRl.out).later hb5)
  go_wp2_with fail
  refine wp_region_held_drew (S := fun W => Below w4.heap.size w4 W) (by kernel_rfl) (by exact (Below.refl _ _).drew) (fun hHeld => ?_)
  refine wpAnyH_take (i := 1) (oi := { dst := some 71, op := Op.move (Operand.tmp 0), type := 33, pos := "outright.go:207", after := #[], guard := none }) (v := ?v21_1) (by kernel_rfl) (by kernel_rfl) (by kernel_rfl) (by kernel_rfl) (fun _ _ _ h => h) (Or.inl ⟨by kernel_rfl, ?h21_1⟩) hHeld ?r21_1
  case h21_1 => (intro w hSw; (try dsimp only at hSw); go_simp; try with_reducible rfl)
  try simp only [Act.put, List.setIfInBounds_toArray, List.set_cons_zero, List.set_cons_succ]
  refine wpAnyH_take (i := 3) (oi := { dst := some 73, op := Op.load 39 (Operand.tmp 5), type := 39, pos := "outright.go:207", after := #[], guard := none }) (v := ?v21_3) (by kernel_rfl) (by kernel_rfl) (by kernel_rfl) (by kernel_rfl) (fun _ _ _ h => h) (Or.inl ⟨by kernel_rfl, ?h21_3⟩) hHeld ?r21_3
  case h21_3 => (intro w hSw; (try dsimp only at hSw); have m0 := (hSw.cell (p := ⟨w3.heap.size, 0, none⟩) hbk4.lt).trans k0; have m1 := (hSw.cell (p := ⟨w3.heap.size, 1, none⟩) hbk4.lt).trans k1; have m2 := (hSw.cell (p := ⟨w3.heap.size, 2, none⟩) hbk4.lt).trans k2; go_simp; try with_reducible rfl)
  try simp only [Act.put, List.setIfInBounds_toArray, List.set_cons_zero, List.set_cons_succ]
  refine wpAnyH_ready (rs := [0, 4]) (by kernel_rfl) (by simp) ?_
  refine AllReadyH.cons (i := 0) (o := { dst := some 70, op := Op.buildSlice 33 0 #[], type := 33, pos := "outright.go:207", after := #[], guard := none }) rfl (fun K hK => ?_) (AllReadyH.cons (i := 4) (o := { dst := some 74, op := Op.buildSlice 33 1 #[(0, Operand.tmp 73)], type := 33, pos := "outright.go:207", after := #[{ on := 3, ground := Ground.data }], guard := none }) rfl (fun K hK => ?_) AllReadyH.nil)
  · skip
    go_simp
    have HR0 := (own_empty w4 w4.heap.size 39 (Nat.le_refl _)).drew
    have hKeep := Below.alloc hHeld hHeld.size (.cells #[] 39)
    refine hK.out _ _ (by exact hKeep) (fun hHeld => ?_)
    clear hK K
    try simp only [Act.put, List.setIfInBounds_toArray, List.set_cons_zero, List.set_cons_succ]
    refine wpAnyH_ready (rs := [2, 4]) (by kernel_rfl) (by simp) ?_
    refine AllReadyH.cons (i := 2) (o := { dst := some 72, op := Op.call { callee := Callee.builtin Builtin.append, args := #[Operand.tmp 70, Operand.tmp 71], argTypes := #[33, 33] }, type := 33, pos := "outright.go:207", after := #[{ on := 0, ground := Ground.data }, { on := 1, ground := Ground.data }], guard := none }) rfl (fun K hK => ?_) (AllReadyH.cons (i := 4) (o := { dst := some 74, op := Op.buildSlice 33 1 #[(0, Operand.tmp 73)], type := 33, pos := "outright.go:207", after := #[{ on := 3, ground := Ground.data }], guard := none }) rfl (fun K hK => ?_) AllReadyH.nil)
    · skip
      refine step_append_any _ (by rfl) _ _ _ (by rfl) w4.heap.size 39 i0 _ 3 40 Tryd.underlying33 hi hz0 hz1 hz2 rfl (by decide) _ 0 [] (by rfl) HR0 _ A l.length c (flat l) (by rfl) (HRW.out.below hHeld) (flat_one l) (by unfold maxLen; omega) (by omega) hHeld.size ?_
      intro v5 w5 hown5 hg5 hat5
      have hKeep : Below w4.heap.size w4 w5 := hHeld.grown hg5 hHeld.size (own_ge HR0)
      refine hK.out _ _ (by exact hKeep) (fun hHeld => ?_)
      clear hK K
      try simp only [Act.put, List.setIfInBounds_toArray, List.set_cons_zero, List.set_cons_succ]
      refine wpAnyH_ready (rs := [4]) (by kernel_rfl) (by simp) ?_
      refine AllReadyH.cons (i := 4) (o := { dst := some 74, op := Op.buildSlice 33 1 #[(0, Operand.tmp 73)], type := 33, pos := "outright.go:207", after := #[{ on := 3, ground := Ground.data }], guard := none }) rfl (fun K hK => ?_) AllReadyH.nil
      go_simp
      have HB4 := Blk.new w5 39 #[str [122, 101, 98, 114, 97], .int .u8 0, str [90, 101, 98, 114, 97]]
      have HO := hown5.alloc (.cells #[str [122, 101, 98, 114, 97], .int .u8 0, str [90, 101, 98, 114, 97]] 39)
      have hKeep := Below.alloc hHeld hHeld.size (.cells #[str [122, 101, 98, 114, 97], .int .u8 0, str [90, 101, 98, 114, 97]] 39)
      refine hK.out _ _ (by exact hKeep) (fun hHeld => ?_)
      clear hK K
      try simp only [Act.put, List.setIfInBounds_toArray, List.set_cons_zero, List.set_cons_succ]
      refine wpAnyH_ready (rs := [5]) (by kernel_rfl) (by simp) ?_
      refine AllReadyH.cons (i := 5) (o := { dst := some 75, op := Op.call { callee := Callee.builtin Builtin.append, args := #[Operand.tmp 72, Operand.tmp 74], argTypes := #[33, 33] }, type := 33, pos := "outright.go:207", after := #[{ on := 2, ground := Ground.data }, { on := 4, ground := Ground.data }, { on := 2, ground := Ground.chain }], guard := none }) rfl (fun K hK => ?_) AllReadyH.nil
      refine step_append_any _ (by rfl) _ _ _ (by rfl) w4.heap.size 39 i0 _ 3 40 Tryd.underlying33 hi hz0 hz1 hz2 rfl (by decide) v5 (0 + l.length) ([] ++ flat l) (by rfl) HO _ (some ⟨w5.heap.size, 0, none⟩) 1 1 [str [122, 101, 98, 114, 97], .int .u8 0, str [90, 101, 98, 114, 97]] (by rfl) (blk_reads HB4 rfl) (by simp [Value.oneCell']) (by unfold maxLen; omega) (by omega) hHeld.size ?_
      intro v6 w6 hown6 hg6 hat6
      obtain ⟨A6, c6, rfl, hc6⟩ := own_form hown6
      have HRD6 := Reads.of_own hown6
      rw [Nat.zero_add, List.nil_append] at HRD6
      have hKeep : Below w4.heap.size w4 w6 := hHeld.grown hg6 hHeld.size (own_ge HO)
      refine hK.out _ _ (by exact hKeep) (fun hHeld => ?_)
      clear hK K
      try simp only [Act.put, List.setIfInBounds_toArray, List.set_cons_zero, List.set_cons_succ]
      refine wpAnyH_ready (rs := [6]) (by kernel_rfl) (by simp) ?_
      refine AllReadyH.cons (i := 6) (o := { dst := some 76, op := Op.call { callee := Callee.value (Operand.func 18), args := #[Operand.tmp 75, Operand.const (Value.string { data := #[122, 101, 98, 114, 97] })], argTypes := #[33, 9] }, type := 36, pos := "outright.go:207", after := #[{ on := 5, ground := Ground.data }, { on := 5, ground := Ground.chain }], guard := none }) rfl (fun K hK => ?_) AllReadyH.nil
      go_simp
      refine (look_bad l ([122, 101, 98, 114, 97], 0, [90, 101, 98, 114, 97]) [122, 101, 98, 114, 97] A6 (l.length + 1) c6 w6 rfl HRT.out HLW.out (by simp) (by omega) _ rfl HRD6).mono ?_
      rintro e6 w7 ⟨A7, c7, rfl, hb7⟩
      have hKeep : Below w4.heap.size w4 w7 := hHeld.trans (hb7.mono hHeld.size)
      go_wp2_with fail
      refine hK.out _ _ (by exact hKeep) (fun hHeld => ?_)
      clear hK K
      try simp only [Act.put, List.setIfInBounds_toArray, List.set_cons_zero, List.set_cons_succ]
      refine wpAnyH_take (i := 7) (oi := { dst := some 69, op := Op.move (Operand.tmp 76), type := 36, pos := "outright.go:207", after := #[{ on := 6, ground := Ground.data }], guard := none }) (v := ?v23_7) (by kernel_rfl) (by kernel_rfl) (by kernel_rfl) (by kernel_rfl) (fun _ _ _ h => h) (Or.inl ⟨by kernel_rfl, ?h23_7⟩) hHeld ?r23_7
      case h23_7 => (intro w hSw; (try dsimp only at hSw); go_simp; try with_reducible rfl)
      try simp only [Act.put, List.setIfInBounds_toArray, List.set_cons_zero, List.set_cons_succ]
      refine wpAnyH_take (i := 8) (oi := { dst := some 77, op := Op.extract (Operand.tmp 69) 0, type := 35, pos := "outright.go:207", after := #[{ on := 7, ground := Ground.data }], guard := none }) (v := ?v23_8) (by kernel_rfl) (by kernel_rfl) (by kernel_rfl) (by kernel_rfl) (fun _ _ _ h => h) (Or.inl ⟨by kernel_rfl, ?h23_8⟩) hHeld ?r23_8
      case h23_8 => (intro w hSw; (try dsimp only at hSw); go_simp; try with_reducible rfl)
      try simp only [Act.put, List.setIfInBounds_toArray, List.set_cons_zero, List.set_cons_succ]
      refine wpAnyH_take (i := 9) (oi := { dst := some 78, op := Op.extract (Operand.tmp 69) 1, type := 26, pos := "outright.go:207", after := #[{ on := 7, ground := Ground.data }, { on := 10, ground := Ground.gcOnly Departure.lateStores }], guard := none }) (v := ?v23_9) (by kernel_rfl) (by kernel_rfl) (by kernel_rfl) (by kernel_rfl) (fun _ _ _ h => h) (Or.inl ⟨by kernel_rfl, ?h23_9⟩) hHeld ?r23_9
      case h23_9 => (intro w hSw; (try dsimp only at hSw); go_simp; try with_reducible rfl)
      try simp only [Act.put, List.setIfInBounds_toArray, List.set_cons_zero, List.set_cons_succ]
      refine wpAnyH_take (i := 10) (oi := { dst := some 9, op := Op.assign (Operand.tmp 77), type := 35, pos := "outright.go:207", after := #[{ on := 8, ground := Ground.data }, { on := 6, ground := Ground.chain }, { on := 0, ground := Ground.phase }, { on := 1, ground := Ground.phase }, { on := 2, ground := Ground.phase }, { on := 3, ground := Ground.phase }, { on := 4, ground := Ground.phase }, { on := 5, ground := Ground.phase }, { on := 6, ground := Ground.phase }, { on := 7, ground := Ground.phase }, { on := 8, ground := Ground.phase }, { on := 9, ground := Ground.textOnly Departure.lateStores }], guard := none }) (v := ?v23_10) (by kernel_rfl) (by kernel_rfl) (by kernel_rfl) (by kernel_rfl) (fun _ _ _ h => h) (Or.inl ⟨by kernel_rfl, ?h23_10⟩) hHeld ?r23_10
      case h23_10 => (intro w hSw; (try dsimp only at hSw); go_simp; try with_reducible rfl)
      try simp only [Act.put, List.setIfInBounds_toArray, List.set_cons_zero, List.set_cons_succ]
      refine wpAnyH_take (i := 11) (oi := { dst := some 10, op := Op.assign (Operand.tmp 78), type := 26, pos := "outright.go:207", after := #[{ on := 9, ground := Ground.data }, { on := 10, ground := Ground.chain }, { on := 0, ground := Ground.phase }, { on := 1, ground := Ground.phase }, { on := 2, ground := Ground.phase }, { on := 3, ground := Ground.phase }, { on := 4, ground := Ground.phase }, { on := 5, ground := Ground.phase }, { on := 6, ground := Ground.phase }, { on := 7, ground := Ground.phase }, { on := 8, ground := Ground.phase }, { on := 9, ground := Ground.phase }, { on := 10, ground := Ground.phase }], guard := none }) (v := ?v23_11) (by kernel_rfl) (by kernel_rfl) (by kernel_rfl) (by kernel_rfl) (fun _ _ _ h => h) (Or.inl ⟨by kernel_rfl, ?h23_11⟩) hHeld ?r23_11
      case h23_11 => (intro w hSw; (try dsimp only at hSw); go_simp; try with_reducible rfl)
      try simp only [Act.put, List.setIfInBounds_toArray, List.set_cons_zero, List.set_cons_succ]
      refine wpAnyH_done (by kernel_rfl) ?_ _
      go_wp2_with fail
      go_at_call 14; refine ((HTX.out) _ (below_then hb5 hHeld)).mono ?_; rintro e w8 ⟨rfl, hb8⟩
      have hbk8 := (hbk4.later hHeld).later hb8
      have q0 := hbk8.cell 0
      have q1 := hbk8.cell 1
      have q2 := hbk8.cell 2
      simp only [List.getElem?_toArray, List.getElem?_cons_zero, List.getElem?_cons_succ] at q0 q1 q2
      go_wp2_with fail
      go_at_call 27; refine ((HRIG.out) _).mono ?_; rintro e w9 ⟨rfl, hb9⟩
      go_wp2_with fail
      go_ret
      exact ⟨rfl, below_then hbw (below_then hb5 (below_then hHeld (below_then hb8 hb9)))⟩
    · skip
      go_simp
      have HB4 : Blk ((w4.alloc (.cells #[] 39)).alloc (.cells #[str [122, 101, 98, 114, 97], .int .u8 0, str [90, 101, 98, 114, 97]] 39)).drew (w4.heap.size + 1) 39 #[str [122, 101, 98, 114, 97], .int .u8 0, str [90, 101, 98, 114, 97]] := (by have h := Blk.new (w4.alloc (.cells #[] 39)) 39 #[str [122, 101, 98, 114, 97], .int .u8 0, str [90, 101, 98, 114, 97]]; rw [World.size_alloc] at h; exact h.drew)
      have HR1 := (HR0.alloc (.cells #[str [122, 101, 98, 114, 97], .int .u8 0, str [90, 101, 98, 114, 97]] 39))
      have hKeep := Below.alloc hHeld hHeld.size (.cells #[str [122, 101, 98, 114, 97], .int .u8 0, str [90, 101, 98, 114, 97]] 39)
      refine hK.out _ _ (by exact hKeep) (fun hHeld => ?_)
      clear hK K
      try simp only [Act.put, List.setIfInBounds_toArray, List.set_cons_zero, List.set_cons_succ]
      refine wpAnyH_ready (rs := [2]) (by kernel_rfl) (by simp) ?_
      refine AllReadyH.cons (i := 2) (o := { dst := some 72, op := Op.call { callee := Callee.builtin Builtin.append, args := #[Operand.tmp 70, Operand.tmp 71], argTypes := #[33, 33] }, type := 33, pos := "outright.go:207", after := #[{ on := 0, ground := Ground.data }, { on := 1, ground := Ground.data }], guard := none }) rfl (fun K hK => ?_) AllReadyH.nil
      refine step_append_any _ (by rfl) _ _ _ (by rfl) w4.heap.size 39 i0 _ 3 40 Tryd.underlying33 hi hz0 hz1 hz2 rfl (by decide) _ 0 [] (by rfl) HR1 _ A l.length c (flat l) (by rfl) (HRW.out.below hHeld) (flat_one l) (by unfold maxLen; omega) (by omega) hHeld.size ?_
      intro v5 w5 hown5 hg5 hat5
      have hKeep : Below w4.heap.size w4 w5 := hHeld.grown hg5 hHeld.size (own_ge HR1)
      have HB5 := HB4.grown hg5 (by simp [Value.ownBlock])
      refine hK.out _ _ (by exact hKeep) (fun hHeld => ?_)
      clear hK K
      try simp only [Act.put, List.setIfInBounds_toArray, List.set_cons_zero, List.set_cons_succ]
      refine wpAnyH_ready (rs := [5]) (by kernel_rfl) (by simp) ?_
      refine AllReadyH.cons (i := 5) (o := { dst := some 75, op := Op.call { callee := Callee.builtin Builtin.append, args := #[Operand.tmp 72, Operand.tmp 74], argTypes := #[33, 33] }, type := 33, pos := "outright.go:207", after := #[{ on := 2, ground := Ground.data }, { on := 4, ground := Ground.data }, { on := 2, ground := Ground.chain }], guard := none }) rfl (fun K hK => ?_) AllReadyH.nil
      refine step_append_any _ (by rfl) _ _ _ (by rfl) w4.heap.size 39 i0 _ 3 40 Tryd.underlying33 hi hz0 hz1 hz2 rfl (by decide) v5 (0 + l.length) ([] ++ flat l) (by rfl) hown5 _ (some ⟨(w4.heap.size + 1), 0, none⟩) 1 1 [str [122, 101, 98, 114, 97], .int .u8 0, str [90, 101, 98, 114, 97]] (by rfl) (blk_reads HB5 rfl) (by simp [Value.oneCell']) (by unfold maxLen; omega) (by omega) hHeld.size ?_
      intro v6 w6 hown6 hg6 hat6
      obtain ⟨A6, c6, rfl, hc6⟩ := own_form hown6
      have HRD6 := Reads.of_own hown6
      rw [Nat.zero_add, List.nil_append] at HRD6
      have hKeep : Below w4.heap.size w4 w6 := hHeld.grown hg6 hHeld.size (own_ge hown5)
      refine hK.out _ _ (by exact hKeep) (fun hHeld => ?_)
      clear hK K
      try simp only [Act.put, List.setIfInBounds_toArray, List.set_cons_zero, List.set_cons_succ]
      refine wpAnyH_ready (rs := [6]) (by kernel_rfl) (by simp) ?_
      refine AllReadyH.cons (i := 6) (o := { dst := some 76, op := Op.call { callee := Callee.value (Operand.func 18), args := #[Operand.tmp 75, Operand.const (Value.string { data := #[122, 101, 98, 114, 97] })], argTypes := #[33, 9] }, type := 36, pos := "outright.go:207", after := #[{ on := 5, ground := Ground.data }, { on := 5, ground := Ground.chain }], guard := none }) rfl (fun K hK => ?_) AllReadyH.nil
      go_simp
      refine (look_bad l ([122, 101, 98, 114, 97], 0, [90, 101, 98, 114, 97]) [122, 101, 98, 114, 97] A6 (l.length + 1) c6 w6 rfl HRT.out HLW.out (by simp) (by omega) _ rfl HRD6).mono ?_
      rintro e6 w7 ⟨A7, c7, rfl, hb7⟩
      have hKeep : Below w4.heap.size w4 w7 := hHeld.trans (hb7.mono hHeld.size)
      go_wp2_with fail
      refine hK.out _ _ (by exact hKeep) (fun hHeld => ?_)
      clear hK K
      try simp only [Act.put, List.setIfInBounds_toArray, List.set_cons_zero, List.set_cons_succ]
      refine wpAnyH_take (i := 7) (oi := { dst := some 69, op := Op.move (Operand.tmp 76), type := 36, pos := "outright.go:207", after := #[{ on := 6, ground := Ground.data }], guard := none }) (v := ?v24_7) (by kernel_rfl) (by kernel_rfl) (by kernel_rfl) (by kernel_rfl) (fun _ _ _ h => h) (Or.inl ⟨by kernel_rfl, ?h24_7⟩) hHeld ?r24_7
      case h24_7 => (intro w hSw; (try dsimp only at hSw); go_simp; try with_reducible rfl)
      try simp only [Act.put, List.setIfInBounds_toArray, List.set_cons_zero, List.set_cons_succ]
      refine wpAnyH_take (i := 8) (oi := { dst := some 77, op := Op.extract (Operand.tmp 69) 0, type := 35, pos := "outright.go:207", after := #[{ on := 7, ground := Ground.data }], guard := none }) (v := ?v24_8) (by kernel_rfl) (by kernel_rfl) (by kernel_rfl) (by kernel_rfl) (fun _ _ _ h => h) (Or.inl ⟨by kernel_rfl, ?h24_8⟩) hHeld ?r24_8
      case h24_8 => (intro w hSw; (try dsimp only at hSw); go_simp; try with_reducible rfl)
      try simp only [Act.put, List.setIfInBounds_toArray, List.set_cons_zero, List.set_cons_succ]
      refine wpAnyH_take (i := 9) (oi := { dst := some 78, op := Op.extract (Operand.tmp 69) 1, type := 26, pos := "outright.go:207", after := #[{ on := 7, ground := Ground.data }, { on := 10, ground := Ground.gcOnly Departure.lateStores }], guard := none }) (v := ?v24_9) (by kernel_rfl) (by kernel_rfl) (by kernel_rfl) (by kernel_rfl) (fun _ _ _ h => h) (Or.inl ⟨by kernel_rfl, ?h24_9⟩) hHeld ?r24_9
      case h24_9 => (intro w hSw; (try dsimp only at hSw); go_simp; try with_reducible rfl)
      try simp only [Act.put, List.setIfInBounds_toArray, List.set_cons_zero, List.set_cons_succ]
      refine wpAnyH_take (i := 10) (oi := { dst := some 9, op := Op.assign (Operand.tmp 77), type := 35, pos := "outright.go:207", after := #[{ on := 8, ground := Ground.data }, { on := 6, ground := Ground.chain }, { on := 0, ground := Ground.phase }, { on := 1, ground := Ground.phase }, { on := 2, ground := Ground.phase }, { on := 3, ground := Ground.phase }, { on := 4, ground := Ground.phase }, { on := 5, ground := Ground.phase }, { on := 6, ground := Ground.phase }, { on := 7, ground := Ground.phase }, { on := 8, ground := Ground.phase }, { on := 9, ground := Ground.textOnly Departure.lateStores }], guard := none }) (v := ?v24_10) (by kernel_rfl) (by kernel_rfl) (by kernel_rfl) (by kernel_rfl) (fun _ _ _ h => h) (Or.inl ⟨by kernel_rfl, ?h24_10⟩) hHeld ?r24_10
      case h24_10 => (intro w hSw; (try dsimp only at hSw); go_simp; try with_reducible rfl)
      try simp only [Act.put, List.setIfInBounds_toArray, List.set_cons_zero, List.set_cons_succ]
      refine wpAnyH_take (i := 11) (oi := { dst := some 10, op := Op.assign (Operand.tmp 78), type := 26, pos := "outright.go:207", after := #[{ on := 9, ground := Ground.data }, { on := 10, ground := Ground.chain }, { on := 0, ground := Ground.phase }, { on := 1, ground := Ground.phase }, { on := 2, ground := Ground.phase }, { on := 3, ground := Ground.phase }, { on := 4, ground := Ground.phase }, { on := 5, ground := Ground.phase }, { on := 6, ground := Ground.phase }, { on := 7, ground := Ground.phase }, { on := 8, ground := Ground.phase }, { on := 9, ground := Ground.phase }, { on := 10, ground := Ground.phase }], guard := none }) (v := ?v24_11) (by kernel_rfl) (by kernel_rfl) (by kernel_rfl) (by kernel_rfl) (fun _ _ _ h => h) (Or.inl ⟨by kernel_rfl, ?h24_11⟩) hHeld ?r24_11
      case h24_11 => (intro w hSw; (try dsimp only at hSw); go_simp; try with_reducible rfl)
      try simp only [Act.put, List.setIfInBounds_toArray, List.set_cons_zero, List.set_cons_succ]
      refine wpAnyH_done (by kernel_rfl) ?_ _
      go_wp2_with fail
      go_at_call 14; refine ((HTX.out) _ (below_then hb5 hHeld)).mono ?_; rintro e w8 ⟨rfl, hb8⟩
      have hbk8 := (hbk4.later hHeld).later hb8
      have q0 := hbk8.cell 0
      have q1 := hbk8.cell 1
      have q2 := hbk8.cell 2
      simp only [List.getElem?_toArray, List.getElem?_cons_zero, List.getElem?_cons_succ] at q0 q1 q2
      go_wp2_with fail
      go_at_call 27; refine ((HRIG.out) _).mono ?_; rintro e w9 ⟨rfl, hb9⟩
      go_wp2_with fail
      go_ret
      exact ⟨rfl, below_then hbw (below_then hb5 (below_then hHeld (below_then hb8 hb9)))⟩
  · skip
    go_simp
    have HB4 := (Blk.new w4 39 #[str [122, 101, 98, 114, 97], .int .u8 0, str [90, 101, 98, 114, 97]]).drew
    have hKeep := Below.alloc hHeld hHeld.size (.cells #[str [122, 101, 98, 114, 97], .int .u8 0, str [90, 101, 98, 114, 97]] 39)
    refine hK.out _ _ (by exact hKeep) (fun hHeld => ?_)
    clear hK K
    try simp only [Act.put, List.setIfInBounds_toArray, List.set_cons_zero, List.set_cons_succ]
    refine wpAnyH_ready (rs := [0]) (by kernel_rfl) (by simp) ?_
    refine AllReadyH.cons (i := 0) (o := { dst := some 70, op := Op.buildSlice 33 0 #[], type := 33, pos := "outright.go:207", after := #[], guard := none }) rfl (fun K hK => ?_) AllReadyH.nil
    go_simp
    have HR1 : ((w4.alloc (.cells #[str [122, 101, 98, 114, 97], .int .u8 0, str [90, 101, 98, 114, 97]] 39)).alloc (.cells #[] 39)).drew.ownsRow w4.heap.size 39 3 (.slice (some ⟨w4.heap.size + 1, 0, none⟩) 0 0) 0 [] := (by have h := (own_empty (w4.alloc (.cells #[str [122, 101, 98, 114, 97], .int .u8 0, str [90, 101, 98, 114, 97]] 39)) w4.heap.size 39 (by simp)).drew; rw [World.size_alloc] at h; exact h)
    have HB5 := HB4.alloc (.cells #[] 39)
    have hKeep := Below.alloc hHeld hHeld.size (.cells #[] 39)
    refine hK.out _ _ (by exact hKeep) (fun hHeld => ?_)
    clear hK K
    try simp only [Act.put, List.setIfInBounds_toArray, List.set_cons_zero, List.set_cons_succ]
    refine wpAnyH_ready (rs := [2]) (by kernel_rfl) (by simp) ?_
    refine AllReadyH.cons (i := 2) (o := { dst := some 72, op := Op.call { callee := Callee.builtin Builtin.append, args := #[Operand.tmp 70, Operand.tmp 71], argTypes := #[33, 33] }, type := 33, pos := "outright.go:207", after := #[{ on := 0, ground := Ground.data }, { on := 1, ground := Ground.data }], guard := none }) rfl (fun K hK => ?_) AllReadyH.nil
    refine step_append_any _ (by rfl) _ _ _ (by rfl) w4.heap.size 39 i0 _ 3 40 Tryd.underlying33 hi hz0 hz1 hz2 rfl (by decide) _ 0 [] (by rfl) HR1 _ A l.length c (flat l) (by rfl) (HRW.out.below hHeld) (flat_one l) (by unfold maxLen; omega) (by omega) hHeld.size ?_
    intro v5 w5 hown5 hg5 hat5
    have hKeep : Below w4.heap.size w4 w5 := hHeld.grown hg5 hHeld.size (own_ge HR1)
    have HB6 := HB5.grown hg5 (by simp [Value.ownBlock])
    refine hK.out _ _ (by exact hKeep) (fun hHeld => ?_)
    clear hK K
    try simp only [Act.put, List.setIfInBounds_toArray, List.set_cons_zero, List.set_cons_succ]
    refine wpAnyH_ready (rs := [5]) (by kernel_rfl) (by simp) ?_
    refine AllReadyH.cons (i := 5) (o := { dst := some 75, op := Op.call { callee := Callee.builtin Builtin.append, args := #[Operand.tmp 72, Operand.tmp 74], argTypes := #[33, 33] }, type := 33, pos := "outright.go:207", after := #[{ on := 2, ground := Ground.data }, { on := 4, ground := Ground.data }, { on := 2, ground := Ground.chain }], guard := none }) rfl (fun K hK => ?_) AllReadyH.nil
    refine step_append_any _ (by rfl) _ _ _ (by rfl) w4.heap.size 39 i0 _ 3 40 Tryd.underlying33 hi hz0 hz1 hz2 rfl (by decide) v5 (0 + l.length) ([] ++ flat l) (by rfl) hown5 _ (some ⟨w4.heap.size, 0, none⟩) 1 1 [str [122, 101, 98, 114, 97], .int .u8 0, str [90, 101, 98, 114, 97]] (by rfl) (blk_reads HB6 rfl) (by simp [Value.oneCell']) (by unfold maxLen; omega) (by omega) hHeld.size ?_
    intro v6 w6 hown6 hg6 hat6
    obtain ⟨A6, c6, rfl, hc6⟩ := own_form hown6
    have HRD6 := Reads.of_own hown6
    rw [Nat.zero_add, List.nil_append] at HRD6
    have hKeep : Below w4.heap.size w4 w6 := hHeld.grown hg6 hHeld.size (own_ge hown5)
    refine hK.out _ _ (by exact hKeep) (fun hHeld => ?_)
    clear hK K
    try simp only [Act.put, List.setIfInBounds_toArray, List.set_cons_zero, List.set_cons_succ]
    refine wpAnyH_ready (rs := [6]) (by kernel_rfl) (by simp) ?_
    refine AllReadyH.cons (i := 6) (o := { dst := some 76, op := Op.call { callee := Callee.value (Operand.func 18), args := #[Operand.tmp 75, Operand.const (Value.string { data := #[122, 101, 98, 114, 97] })], argTypes := #[33, 9] }, type := 36, pos := "outright.go:207", after := #[{ on := 5, ground := Ground.data }, { on := 5, ground := Ground.chain }], guard := none }) rfl (fun K hK => ?_) AllReadyH.nil
    go_simp
    refine (look_bad l ([122, 101, 98, 114, 97], 0, [90, 101, 98, 114, 97]) [122, 101, 98, 114, 97] A6 (l.length + 1) c6 w6 rfl HRT.out HLW.out (by simp) (by omega) _ rfl HRD6).mono ?_
    rintro e6 w7 ⟨A7, c7, rfl, hb7⟩
    have hKeep : Below w4.heap.size w4 w7 := hHeld.trans (hb7.mono hHeld.size)
    go_wp2_with fail
    refine hK.out _ _ (by exact hKeep) (fun hHeld => ?_)
    clear hK K
    try simp only [Act.put, List.setIfInBounds_toArray, List.set_cons_zero, List.set_cons_succ]
    refine wpAnyH_take (i := 7) (oi := { dst := some 69, op := Op.move (Operand.tmp 76), type := 36, pos := "outright.go:207", after := #[{ on := 6, ground := Ground.data }], guard := none }) (v := ?v25_7) (by kernel_rfl) (by kernel_rfl) (by kernel_rfl) (by kernel_rfl) (fun _ _ _ h => h) (Or.inl ⟨by kernel_rfl, ?h25_7⟩) hHeld ?r25_7
    case h25_7 => (intro w hSw; (try dsimp only at hSw); go_simp; try with_reducible rfl)
    try simp only [Act.put, List.setIfInBounds_toArray, List.set_cons_zero, List.set_cons_succ]
    refine wpAnyH_take (i := 8) (oi := { dst := some 77, op := Op.extract (Operand.tmp 69) 0, type := 35, pos := "outright.go:207", after := #[{ on := 7, ground := Ground.data }], guard := none }) (v := ?v25_8) (by kernel_rfl) (by kernel_rfl) (by kernel_rfl) (by kernel_rfl) (fun _ _ _ h => h) (Or.inl ⟨by kernel_rfl, ?h25_8⟩) hHeld ?r25_8
    case h25_8 => (intro w hSw; (try dsimp only at hSw); go_simp; try with_reducible rfl)
    try simp only [Act.put, List.setIfInBounds_toArray, List.set_cons_zero, List.set_cons_succ]
    refine wpAnyH_take (i := 9) (oi := { dst := some 78, op := Op.extract (Operand.tmp 69) 1, type := 26, pos := "outright.go:207", after := #[{ on := 7, ground := Ground.data }, { on := 10, ground := Ground.gcOnly Departure.lateStores }], guard := none }) (v := ?v25_9) (by kernel_rfl) (by kernel_rfl) (by kernel_rfl) (by kernel_rfl) (fun _ _ _ h => h) (Or.inl ⟨by kernel_rfl, ?h25_9⟩) hHeld ?r25_9
    case h25_9 => (intro w hSw; (try dsimp only at hSw); go_simp; try with_reducible rfl)
    try simp only [Act.put, List.setIfInBounds_toArray, List.set_cons_zero, List.set_cons_succ]
    refine wpAnyH_take (i := 10) (oi := { dst := some 9, op := Op.assign (Operand.tmp 77), type := 35, pos := "outright.go:207", after := #[{ on := 8, ground := Ground.data }, { on := 6, ground := Ground.chain }, { on := 0, ground := Ground.phase }, { on := 1, ground := Ground.phase }, { on := 2, ground := Ground.phase }, { on := 3, ground := Ground.phase }, { on := 4, ground := Ground.phase }, { on := 5, ground := Ground.phase }, { on := 6, ground := Ground.phase }, { on := 7, ground := Ground.phase }, { on := 8, ground := Ground.phase }, { on := 9, ground := Ground.textOnly Departure.lateStores }], guard := none }) (v := ?v25_10) (by kernel_rfl) (by kernel_rfl) (by kernel_rfl) (by kernel_rfl) (fun _ _ _ h => h) (Or.inl ⟨by kernel_rfl, ?h25_10⟩) hHeld ?r25_10
    case h25_10 => (intro w hSw; (try dsimp only at hSw); go_simp; try with_reducible rfl)
    try simp only [Act.put, List.setIfInBounds_toArray, List.set_cons_zero, List.set_cons_succ]
    refine wpAnyH_take (i := 11) (oi := { dst := some 10, op := Op.assign (Operand.tmp 78), type := 26, pos := "outright.go:207", after := #[{ on := 9, ground := Ground.data }, { on := 10, ground := Ground.chain }, { on := 0, ground := Ground.phase }, { on := 1, ground := Ground.phase }, { on := 2, ground := Ground.phase }, { on := 3, ground := Ground.phase }, { on := 4, ground := Ground.phase }, { on := 5, ground := Ground.phase }, { on := 6, ground := Ground.phase }, { on := 7, ground := Ground.phase }, { on := 8, ground := Ground.phase }, { on := 9, ground := Ground.phase }, { on := 10, ground := Ground.phase }], guard := none }) (v := ?v25_11) (by kernel_rfl) (by kernel_rfl) (by kernel_rfl) (by kernel_rfl) (fun _ _ _ h => h) (Or.inl ⟨by kernel_rfl, ?h25_11⟩) hHeld ?r25_11
    case h25_11 => (intro w hSw; (try dsimp only at hSw); go_simp; try with_reducible rfl)
    try simp only [Act.put, List.setIfInBounds_toArray, List.set_cons_zero, List.set_cons_succ]
    refine wpAnyH_done (by kernel_rfl) ?_ _
    go_wp2_with fail
    go_at_call 14; refine ((HTX.out) _ (below_then hb5 hHeld)).mono ?_; rintro e w8 ⟨rfl, hb8⟩
    have hbk8 := (hbk4.later hHeld).later hb8
    have q0 := hbk8.cell 0
    have q1 := hbk8.cell 1
    have q2 := hbk8.cell 2
    simp only [List.getElem?_toArray, List.getElem?_cons_zero, List.getElem?_cons_succ] at q0 q1 q2
    go_wp2_with fail
    go_at_call 27; refine ((HRIG.out) _).mono ?_; rintro e w9 ⟨rfl, hb9⟩
    go_wp2_with fail
    go_ret
    exact ⟨rfl, below_then hbw (below_then hb5 (below_then hHeld (below_then hb8 hb9)))⟩
set_option maxRecDepth 100000 in
set_option maxHeartbeats 6400000 in
theorem wrong_5 (l : List Ent) (f : Int) (A : Option Addr) (c : Nat) (w : World) (h0 : 0 ≤ f) (h1 : f < 256) (hf : f % 8 = 5) (hv : validL l = true) (hsm : smallL l = true) (hr : Reads w w.heap.size 3 A l.length (flat l)) (hle : l.length ≤ c) :
    Calls Tryd.prog 10 #[.slice A l.length c, .int .u8 f] w fun e w' => e = .returned (.bool true) ∧ Below w.heap.size w w' := by
  obtain ⟨hl, hsz⟩ := small_each hsm
  obtain ⟨i0, hi, hz0, hz1, hz2⟩ := info_parts infoEnt
  have HSM := Lib.hid hsm
  have HV := Lib.hid hv
  have HS := Lib.hid hsz
  have HR := Lib.hid hr
  clear hsm hv hsz hr
  go_enter Tryd.func10, Tryd.ntmps10
  go_wp2_with fail
  go_at_call 12; refine (awake_any _).mono ?_; rintro e w1 ⟨rfl, hb1⟩
  go_wp2_with fail
  go_at_call 17; refine (small_any l A c _ ((HR.out).later hb1) (fun e h => by have := HS.out e h; unfold maxLen; omega)).mono ?_; rw [HSM.out]; rintro e w2 ⟨rfl, rfl⟩
  go_wp2_with fail
  go_at_call 19; refine (valid_any l A c _ (fun e h => by have := (HS.out e h).1; omega) hle ((HR.out).later hb1)).mono ?_; rw [HV.out]; rintro e w3 ⟨rfl, hb3⟩
  go_wp2_with fail
  obtain ⟨W1, hW1⟩ : ∃ W1 : World, W1 = (w3.alloc (.cells #[str [122, 101, 98, 114, 97], .int .u8 6, str [90, 101, 98, 114, 97]] 39)).alloc (.cells #[str [44], str [115, 108, 101, 101, 112, 115], str [46]] 9) := ⟨_, rfl⟩
  have hb4 : Below w3.heap.size w3 W1 := by rw [hW1]; exact ((Below.refl _ _).alloc (Nat.le_refl _) _).alloc (by simp) _
  have hbk : Blk W1 w3.heap.size 39 #[str [122, 101, 98, 114, 97], .int .u8 6, str [90, 101, 98, 114, 97]] := by rw [hW1]; exact (Blk.new w3 _ _).alloc _
  have hbt : Blk W1 (w3.heap.size + 1) 9 (([[44], [115, 108, 101, 101, 112, 115], [46]] : List (List UInt8)).map str).toArray := by rw [hW1]; have h := Blk.new (w3.alloc (.cells #[str [122, 101, 98, 114, 97], .int .u8 6, str [90, 101, 98, 114, 97]] 39)) 9 #[str [44], str [115, 108, 101, 101, 112, 115], str [46]]; rw [World.size_alloc] at h; exact h
  have HTX : Hid (∀ W, Below W1.heap.size W1 W → Calls Tryd.prog 14 #[.slice (some ⟨w3.heap.size + 1, 0, none⟩) 3 3] W fun e w' => e = .returned (.tuple #[str [], .int .i64 2]) ∧ Below W.heap.size W w') := fun W hb => text_no [[44], [115, 108, 101, 101, 112, 115], [46]] (some ⟨w3.heap.size + 1, 0, none⟩) 3 W (by kernel_rfl) (by simp) (by simp) (by simp) (blk_reads (hbt.later hb) (by simp))
  clear hbt
  have HRT : Hid (rightL ([122, 101, 98, 114, 97], 6, [90, 101, 98, 114, 97]) = false) := (by kernel_rfl : rightL ([122, 101, 98, 114, 97], 6, [90, 101, 98, 114, 97]) = false)
  have hbw := below_then hb1 (below_then hb3 hb4)
  have HRl := Lib.hid ((HR.out).later hbw)
  have HLW : Hid (∀ x ∈ l, x.1.length ≤ 1048576) := fun x h => by have := (HS.out x h).1; omega
  have HADD : Hid (Calls Tryd.prog 26 #[.slice A l.length c, .agg #[str [122, 101, 98, 114, 97], .int .u8 6, str [90, 101, 98, 114, 97]]] W1 fun e' w' => e' = .returned (.tuple #[.slice none 0 0, .int .i64 2]) ∧ Below W1.heap.size W1 w') := add_bad l ([122, 101, 98, 114, 97], 6, [90, 101, 98, 114, 97]) A c W1 (by omega) HLW.out hle HRl.out (by simp) (by rw [HRT.out, Bool.and_false])
  have HRIG : Hid (∀ W : World, Calls Tryd.prog 27 #[.agg #[str [122, 101, 98, 114, 97], .int .u8 6, str [90, 101, 98, 114, 97]]] W fun e' w' => e' = .returned (.bool false) ∧ Below W.heap.size W w') := fun W => (right_any [122, 101, 98, 114, 97] 6 [90, 101, 98, 114, 97] W (by simp)).mono fun e' w' h => by rw [show rightL ([122, 101, 98, 114, 97], 6, [90, 101, 98, 114, 97]) = false from HRT.out] at h; exact h
  rw [← hW1]
  clear hW1
  refine (HADD.out).mono ?_; rintro e w4 ⟨rfl, hb5⟩
  have hbk4 := hbk.later hb5
  have k0 := hbk4.cell 0
  have k1 := hbk4.cell 1
  have k2 := hbk4.cell 2
  simp only [List.getElem?_toArray, List.getElem?_cons_zero, List.getElem?_cons_succ] at k0 k1 k2
  have HRW := Lib.hid ((HRl.out).later hb5)
  go_wp2_with fail
  refine wp_region_held_drew (S := fun W => Below w4.heap.size w4 W) (by kernel_rfl) (by exact (Below.refl _ _).drew) (fun hHeld => ?_)
  refine wpAnyH_take (i := 1) (oi := { dst := some 71, op := Op.move (Operand.tmp 0), type := 33, pos := "outright.go:207", after := #[], guard := none }) (v := ?v26_1) (by kernel_rfl) (by kernel_rfl) (by kernel_rfl) (by kernel_rfl) (fun _ _ _ h => h) (Or.inl ⟨by kernel_rfl, ?h26_1⟩) hHeld ?r26_1
  case h26_1 => (intro w hSw; (try dsimp only at hSw); go_simp; try with_reducible rfl)
  try simp only [Act.put, List.setIfInBounds_toArray, List.set_cons_zero, List.set_cons_succ]
  refine wpAnyH_take (i := 3) (oi := { dst := some 73, op := Op.load 39 (Operand.tmp 5), type := 39, pos := "outright.go:207", after := #[], guard := none }) (v := ?v26_3) (by kernel_rfl) (by kernel_rfl) (by kernel_rfl) (by kernel_rfl) (fun _ _ _ h => h) (Or.inl ⟨by kernel_rfl, ?h26_3⟩) hHeld ?r26_3
  case h26_3 => (intro w hSw; (try dsimp only at hSw); have m0 := (hSw.cell (p := ⟨w3.heap.size, 0, none⟩) hbk4.lt).trans k0; have m1 := (hSw.cell (p := ⟨w3.heap.size, 1, none⟩) hbk4.lt).trans k1; have m2 := (hSw.cell (p := ⟨w3.heap.size, 2, none⟩) hbk4.lt).trans k2; go_simp; try with_reducible rfl)
  try simp only [Act.put, List.setIfInBounds_toArray, List.set_cons_zero, List.set_cons_succ]
  refine wpAnyH_ready (rs := [0, 4]) (by kernel_rfl) (by simp) ?_
  refine AllReadyH.cons (i := 0) (o := { dst := some 70, op := Op.buildSlice 33 0 #[], type := 33, pos := "outright.go:207", after := #[], guard := none }) rfl (fun K hK => ?_) (AllReadyH.cons (i := 4) (o := { dst := some 74, op := Op.buildSlice 33 1 #[(0, Operand.tmp 73)], type := 33, pos := "outright.go:207", after := #[{ on := 3, ground := Ground.data }], guard := none }) rfl (fun K hK => ?_) AllReadyH.nil)
  · skip
    go_simp
    have HR0 := (own_empty w4 w4.heap.size 39 (Nat.le_refl _)).drew
    have hKeep := Below.alloc hHeld hHeld.size (.cells #[] 39)
    refine hK.out _ _ (by exact hKeep) (fun hHeld => ?_)
    clear hK K
    try simp only [Act.put, List.setIfInBounds_toArray, List.set_cons_zero, List.set_cons_succ]
    refine wpAnyH_ready (rs := [2, 4]) (by kernel_rfl) (by simp) ?_
    refine AllReadyH.cons (i := 2) (o := { dst := some 72, op := Op.call { callee := Callee.builtin Builtin.append, args := #[Operand.tmp 70, Operand.tmp 71], argTypes := #[33, 33] }, type := 33, pos := "outright.go:207", after := #[{ on := 0, ground := Ground.data }, { on := 1, ground := Ground.data }], guard := none }) rfl (fun K hK => ?_) (AllReadyH.cons (i := 4) (o := { dst := some 74, op := Op.buildSlice 33 1 #[(0, Operand.tmp 73)], type := 33, pos := "outright.go:207", after := #[{ on := 3, ground := Ground.data }], guard := none }) rfl (fun K hK => ?_) AllReadyH.nil)
    · skip
      refine step_append_any _ (by rfl) _ _ _ (by rfl) w4.heap.size 39 i0 _ 3 40 Tryd.underlying33 hi hz0 hz1 hz2 rfl (by decide) _ 0 [] (by rfl) HR0 _ A l.length c (flat l) (by rfl) (HRW.out.below hHeld) (flat_one l) (by unfold maxLen; omega) (by omega) hHeld.size ?_
      intro v5 w5 hown5 hg5 hat5
      have hKeep : Below w4.heap.size w4 w5 := hHeld.grown hg5 hHeld.size (own_ge HR0)
      refine hK.out _ _ (by exact hKeep) (fun hHeld => ?_)
      clear hK K
      try simp only [Act.put, List.setIfInBounds_toArray, List.set_cons_zero, List.set_cons_succ]
      refine wpAnyH_ready (rs := [4]) (by kernel_rfl) (by simp) ?_
      refine AllReadyH.cons (i := 4) (o := { dst := some 74, op := Op.buildSlice 33 1 #[(0, Operand.tmp 73)], type := 33, pos := "outright.go:207", after := #[{ on := 3, ground := Ground.data }], guard := none }) rfl (fun K hK => ?_) AllReadyH.nil
      go_simp
      have HB4 := Blk.new w5 39 #[str [122, 101, 98, 114, 97], .int .u8 6, str [90, 101, 98, 114, 97]]
      have HO := hown5.alloc (.cells #[str [122, 101, 98, 114, 97], .int .u8 6, str [90, 101, 98, 114, 97]] 39)
      have hKeep := Below.alloc hHeld hHeld.size (.cells #[str [122, 101, 98, 114, 97], .int .u8 6, str [90, 101, 98, 114, 97]] 39)
      refine hK.out _ _ (by exact hKeep) (fun hHeld => ?_)
      clear hK K
      try simp only [Act.put, List.setIfInBounds_toArray, List.set_cons_zero, List.set_cons_succ]
      refine wpAnyH_ready (rs := [5]) (by kernel_rfl) (by simp) ?_
      refine AllReadyH.cons (i := 5) (o := { dst := some 75, op := Op.call { callee := Callee.builtin Builtin.append, args := #[Operand.tmp 72, Operand.tmp 74], argTypes := #[33, 33] }, type := 33, pos := "outright.go:207", after := #[{ on := 2, ground := Ground.data }, { on := 4, ground := Ground.data }, { on := 2, ground := Ground.chain }], guard := none }) rfl (fun K hK => ?_) AllReadyH.nil
      refine step_append_any _ (by rfl) _ _ _ (by rfl) w4.heap.size 39 i0 _ 3 40 Tryd.underlying33 hi hz0 hz1 hz2 rfl (by decide) v5 (0 + l.length) ([] ++ flat l) (by rfl) HO _ (some ⟨w5.heap.size, 0, none⟩) 1 1 [str [122, 101, 98, 114, 97], .int .u8 6, str [90, 101, 98, 114, 97]] (by rfl) (blk_reads HB4 rfl) (by simp [Value.oneCell']) (by unfold maxLen; omega) (by omega) hHeld.size ?_
      intro v6 w6 hown6 hg6 hat6
      obtain ⟨A6, c6, rfl, hc6⟩ := own_form hown6
      have HRD6 := Reads.of_own hown6
      rw [Nat.zero_add, List.nil_append] at HRD6
      have hKeep : Below w4.heap.size w4 w6 := hHeld.grown hg6 hHeld.size (own_ge HO)
      refine hK.out _ _ (by exact hKeep) (fun hHeld => ?_)
      clear hK K
      try simp only [Act.put, List.setIfInBounds_toArray, List.set_cons_zero, List.set_cons_succ]
      refine wpAnyH_ready (rs := [6]) (by kernel_rfl) (by simp) ?_
      refine AllReadyH.cons (i := 6) (o := { dst := some 76, op := Op.call { callee := Callee.value (Operand.func 18), args := #[Operand.tmp 75, Operand.const (Value.string { data := #[122, 101, 98, 114, 97] })], argTypes := #[33, 9] }, type := 36, pos := "outright.go:207", after := #[{ on := 5, ground := Ground.data }, { on := 5, ground := Ground.chain }], guard := none }) rfl (fun K hK => ?_) AllReadyH.nil
      go_simp
      refine (look_bad l ([122, 101, 98, 114, 97], 6, [90, 101, 98, 114, 97]) [122, 101, 98, 114, 97] A6 (l.length + 1) c6 w6 rfl HRT.out HLW.out (by simp) (by omega) _ rfl HRD6).mono ?_
      rintro e6 w7 ⟨A7, c7, rfl, hb7⟩
      have hKeep : Below w4.heap.size w4 w7 := hHeld.trans (hb7.mono hHeld.size)
      go_wp2_with fail
      refine hK.out _ _ (by exact hKeep) (fun hHeld => ?_)
      clear hK K
      try simp only [Act.put, List.setIfInBounds_toArray, List.set_cons_zero, List.set_cons_succ]
      refine wpAnyH_take (i := 7) (oi := { dst := some 69, op := Op.move (Operand.tmp 76), type := 36, pos := "outright.go:207", after := #[{ on := 6, ground := Ground.data }], guard := none }) (v := ?v28_7) (by kernel_rfl) (by kernel_rfl) (by kernel_rfl) (by kernel_rfl) (fun _ _ _ h => h) (Or.inl ⟨by kernel_rfl, ?h28_7⟩) hHeld ?r28_7
      case h28_7 => (intro w hSw; (try dsimp only at hSw); go_simp; try with_reducible rfl)
      try simp only [Act.put, List.setIfInBounds_toArray, List.set_cons_zero, List.set_cons_succ]
      refine wpAnyH_take (i := 8) (oi := { dst := some 77, op := Op.extract (Operand.tmp 69) 0, type := 35, pos := "outright.go:207", after := #[{ on := 7, ground := Ground.data }], guard := none }) (v := ?v28_8) (by kernel_rfl) (by kernel_rfl) (by kernel_rfl) (by kernel_rfl) (fun _ _ _ h => h) (Or.inl ⟨by kernel_rfl, ?h28_8⟩) hHeld ?r28_8
      case h28_8 => (intro w hSw; (try dsimp only at hSw); go_simp; try with_reducible rfl)
      try simp only [Act.put, List.setIfInBounds_toArray, List.set_cons_zero, List.set_cons_succ]
      refine wpAnyH_take (i := 9) (oi := { dst := some 78, op := Op.extract (Operand.tmp 69) 1, type := 26, pos := "outright.go:207", after := #[{ on := 7, ground := Ground.data }, { on := 10, ground := Ground.gcOnly Departure.lateStores }], guard := none }) (v := ?v28_9) (by kernel_rfl) (by kernel_rfl) (by kernel_rfl) (by kernel_rfl) (fun _ _ _ h => h) (Or.inl ⟨by kernel_rfl, ?h28_9⟩) hHeld ?r28_9
      case h28_9 => (intro w hSw; (try dsimp only at hSw); go_simp; try with_reducible rfl)
      try simp only [Act.put, List.setIfInBounds_toArray, List.set_cons_zero, List.set_cons_succ]
      refine wpAnyH_take (i := 10) (oi := { dst := some 9, op := Op.assign (Operand.tmp 77), type := 35, pos := "outright.go:207", after := #[{ on := 8, ground := Ground.data }, { on := 6, ground := Ground.chain }, { on := 0, ground := Ground.phase }, { on := 1, ground := Ground.phase }, { on := 2, ground := Ground.phase }, { on := 3, ground := Ground.phase }, { on := 4, ground := Ground.phase }, { on := 5, ground := Ground.phase }, { on := 6, ground := Ground.phase }, { on := 7, ground := Ground.phase }, { on := 8, ground := Ground.phase }, { on := 9, ground := Ground.textOnly Departure.lateStores }], guard := none }) (v := ?v28_10) (by kernel_rfl) (by kernel_rfl) (by kernel_rfl) (by kernel_rfl) (fun _ _ _ h => h) (Or.inl ⟨by kernel_rfl, ?h28_10⟩) hHeld ?r28_10
      case h28_10 => (intro w hSw; (try dsimp only at hSw); go_simp; try with_reducible rfl)
      try simp only [Act.put, List.setIfInBounds_toArray, List.set_cons_zero, List.set_cons_succ]
      refine wpAnyH_take (i := 11) (oi := { dst := some 10, op := Op.assign (Operand.tmp 78), type := 26, pos := "outright.go:207", after := #[{ on := 9, ground := Ground.data }, { on := 10, ground := Ground.chain }, { on := 0, ground := Ground.phase }, { on := 1, ground := Ground.phase }, { on := 2, ground := Ground.phase }, { on := 3, ground := Ground.phase }, { on := 4, ground := Ground.phase }, { on := 5, ground := Ground.phase }, { on := 6, ground := Ground.phase }, { on := 7, ground := Ground.phase }, { on := 8, ground := Ground.phase }, { on := 9, ground := Ground.phase }, { on := 10, ground := Ground.phase }], guard := none }) (v := ?v28_11) (by kernel_rfl) (by kernel_rfl) (by kernel_rfl) (by kernel_rfl) (fun _ _ _ h => h) (Or.inl ⟨by kernel_rfl, ?h28_11⟩) hHeld ?r28_11
      case h28_11 => (intro w hSw; (try dsimp only at hSw); go_simp; try with_reducible rfl)
      try simp only [Act.put, List.setIfInBounds_toArray, List.set_cons_zero, List.set_cons_succ]
      refine wpAnyH_done (by kernel_rfl) ?_ _
      go_wp2_with fail
      go_at_call 14; refine ((HTX.out) _ (below_then hb5 hHeld)).mono ?_; rintro e w8 ⟨rfl, hb8⟩
      have hbk8 := (hbk4.later hHeld).later hb8
      have q0 := hbk8.cell 0
      have q1 := hbk8.cell 1
      have q2 := hbk8.cell 2
      simp only [List.getElem?_toArray, List.getElem?_cons_zero, List.getElem?_cons_succ] at q0 q1 q2
      go_wp2_with fail
      go_at_call 27; refine ((HRIG.out) _).mono ?_; rintro e w9 ⟨rfl, hb9⟩
      go_wp2_with fail
      go_ret
      exact ⟨rfl, below_then hbw (below_then hb5 (below_then hHeld (below_then hb8 hb9)))⟩
    · skip
      go_simp
      have HB4 : Blk ((w4.alloc (.cells #[] 39)).alloc (.cells #[str [122, 101, 98, 114, 97], .int .u8 6, str [90, 101, 98, 114, 97]] 39)).drew (w4.heap.size + 1) 39 #[str [122, 101, 98, 114, 97], .int .u8 6, str [90, 101, 98, 114, 97]] := (by have h := Blk.new (w4.alloc (.cells #[] 39)) 39 #[str [122, 101, 98, 114, 97], .int .u8 6, str [90, 101, 98, 114, 97]]; rw [World.size_alloc] at h; exact h.drew)
      have HR1 := (HR0.alloc (.cells #[str [122, 101, 98, 114, 97], .int .u8 6, str [90, 101, 98, 114, 97]] 39))
      have hKeep := Below.alloc hHeld hHeld.size (.cells #[str [122, 101, 98, 114, 97], .int .u8 6, str [90, 101, 98, 114, 97]] 39)
      refine hK.out _ _ (by exact hKeep) (fun hHeld => ?_)
      clear hK K
      try simp only [Act.put, List.setIfInBounds_toArray, List.set_cons_zero, List.set_cons_succ]
      refine wpAnyH_ready (rs := [2]) (by kernel_rfl) (by simp) ?_
      refine AllReadyH.cons (i := 2) (o := { dst := some 72, op := Op.call { callee := Callee.builtin Builtin.append, args := #[Operand.tmp 70, Operand.tmp 71], argTypes := #[33, 33] }, type := 33, pos := "outright.go:207", after := #[{ on := 0, ground := Ground.data }, { on := 1, ground := Ground.data }], guard := none }) rfl (fun K hK => ?_) AllReadyH.nil
      refine step_append_any _ (by rfl) _ _ _ (by rfl) w4.heap.size 39 i0 _ 3 40 Tryd.underlying33 hi hz0 hz1 hz2 rfl (by decide) _ 0 [] (by rfl) HR1 _ A l.length c (flat l) (by rfl) (HRW.out.below hHeld) (flat_one l) (by unfold maxLen; omega) (by omega) hHeld.size ?_
      intro v5 w5 hown5 hg5 hat5
      have hKeep : Below w4.heap.size w4 w5 := hHeld.grown hg5 hHeld.size (own_ge HR1)
      have HB5 := HB4.grown hg5 (by simp [Value.ownBlock])
      refine hK.out _ _ (by exact hKeep) (fun hHeld => ?_)
      clear hK K
      try simp only [Act.put, List.setIfInBounds_toArray, List.set_cons_zero, List.set_cons_succ]
      refine wpAnyH_ready (rs := [5]) (by kernel_rfl) (by simp) ?_
      refine AllReadyH.cons (i := 5) (o := { dst := some 75, op := Op.call { callee := Callee.builtin Builtin.append, args := #[Operand.tmp 72, Operand.tmp 74], argTypes := #[33, 33] }, type := 33, pos := "outright.go:207", after := #[{ on := 2, ground := Ground.data }, { on := 4, ground := Ground.data }, { on := 2, ground := Ground.chain }], guard := none }) rfl (fun K hK => ?_) AllReadyH.nil
      refine step_append_any _ (by rfl) _ _ _ (by rfl) w4.heap.size 39 i0 _ 3 40 Tryd.underlying33 hi hz0 hz1 hz2 rfl (by decide) v5 (0 + l.length) ([] ++ flat l) (by rfl) hown5 _ (some ⟨(w4.heap.size + 1), 0, none⟩) 1 1 [str [122, 101, 98, 114, 97], .int .u8 6, str [90, 101, 98, 114, 97]] (by rfl) (blk_reads HB5 rfl) (by simp [Value.oneCell']) (by unfold maxLen; omega) (by omega) hHeld.size ?_
      intro v6 w6 hown6 hg6 hat6
      obtain ⟨A6, c6, rfl, hc6⟩ := own_form hown6
      have HRD6 := Reads.of_own hown6
      rw [Nat.zero_add, List.nil_append] at HRD6
      have hKeep : Below w4.heap.size w4 w6 := hHeld.grown hg6 hHeld.size (own_ge hown5)
      refine hK.out _ _ (by exact hKeep) (fun hHeld => ?_)
      clear hK K
      try simp only [Act.put, List.setIfInBounds_toArray, List.set_cons_zero, List.set_cons_succ]
      refine wpAnyH_ready (rs := [6]) (by kernel_rfl) (by simp) ?_
      refine AllReadyH.cons (i := 6) (o := { dst := some 76, op := Op.call { callee := Callee.value (Operand.func 18), args := #[Operand.tmp 75, Operand.const (Value.string { data := #[122, 101, 98, 114, 97] })], argTypes := #[33, 9] }, type := 36, pos := "outright.go:207", after := #[{ on := 5, ground := Ground.data }, { on := 5, ground := Ground.chain }], guard := none }) rfl (fun K hK => ?_) AllReadyH.nil
      go_simp
      refine (look_bad l ([122, 101, 98, 114, 97], 6, [90, 101, 98, 114, 97]) [122, 101, 98, 114, 97] A6 (l.length + 1) c6 w6 rfl HRT.out HLW.out (by simp) (by omega) _ rfl HRD6).mono ?_
      rintro e6 w7 ⟨A7, c7, rfl, hb7⟩
      have hKeep : Below w4.heap.size w4 w7 := hHeld.trans (hb7.mono hHeld.size)
      go_wp2_with fail
      refine hK.out _ _ (by exact hKeep) (fun hHeld => ?_)
      clear hK K
      try simp only [Act.put, List.setIfInBounds_toArray, List.set_cons_zero, List.set_cons_succ]
      refine wpAnyH_take (i := 7) (oi := { dst := some 69, op := Op.move (Operand.tmp 76), type := 36, pos := "outright.go:207", after := #[{ on := 6, ground := Ground.data }], guard := none }) (v := ?v29_7) (by kernel_rfl) (by kernel_rfl) (by kernel_rfl) (by kernel_rfl) (fun _ _ _ h => h) (Or.inl ⟨by kernel_rfl, ?h29_7⟩) hHeld ?r29_7
      case h29_7 => (intro w hSw; (try dsimp only at hSw); go_simp; try with_reducible rfl)
      try simp only [Act.put, List.setIfInBounds_toArray, List.set_cons_zero, List.set_cons_succ]
      refine wpAnyH_take (i := 8) (oi := { dst := some 77, op := Op.extract (Operand.tmp 69) 0, type := 35, pos := "outright.go:207", after := #[{ on := 7, ground := Ground.data }], guard := none }) (v := ?v29_8) (by kernel_rfl) (by kernel_rfl) (by kernel_rfl) (by kernel_rfl) (fun _ _ _ h => h) (Or.inl ⟨by kernel_rfl, ?h29_8⟩) hHeld ?r29_8
      case h29_8 => (intro w hSw; (try dsimp only at hSw); go_simp; try with_reducible rfl)
      try simp only [Act.put, List.setIfInBounds_toArray, List.set_cons_zero, List.set_cons_succ]
      refine wpAnyH_take (i := 9) (oi := { dst := some 78, op := Op.extract (Operand.tmp 69) 1, type := 26, pos := "outright.go:207", after := #[{ on := 7, ground := Ground.data }, { on := 10, ground := Ground.gcOnly Departure.lateStores }], guard := none }) (v := ?v29_9) (by kernel_rfl) (by kernel_rfl) (by kernel_rfl) (by kernel_rfl) (fun _ _ _ h => h) (Or.inl ⟨by kernel_rfl, ?h29_9⟩) hHeld ?r29_9
      case h29_9 => (intro w hSw; (try dsimp only at hSw); go_simp; try with_reducible rfl)
      try simp only [Act.put, List.setIfInBounds_toArray, List.set_cons_zero, List.set_cons_succ]
      refine wpAnyH_take (i := 10) (oi := { dst := some 9, op := Op.assign (Operand.tmp 77), type := 35, pos := "outright.go:207", after := #[{ on := 8, ground := Ground.data }, { on := 6, ground := Ground.chain }, { on := 0, ground := Ground.phase }, { on := 1, ground := Ground.phase }, { on := 2, ground := Ground.phase }, { on := 3, ground := Ground.phase }, { on := 4, ground := Ground.phase }, { on := 5, ground := Ground.phase }, { on := 6, ground := Ground.phase }, { on := 7, ground := Ground.phase }, { on := 8, ground := Ground.phase }, { on := 9, ground := Ground.textOnly Departure.lateStores }], guard := none }) (v := ?v29_10) (by kernel_rfl) (by kernel_rfl) (by kernel_rfl) (by kernel_rfl) (fun _ _ _ h => h) (Or.inl ⟨by kernel_rfl, ?h29_10⟩) hHeld ?r29_10
      case h29_10 => (intro w hSw; (try dsimp only at hSw); go_simp; try with_reducible rfl)
      try simp only [Act.put, List.setIfInBounds_toArray, List.set_cons_zero, List.set_cons_succ]
      refine wpAnyH_take (i := 11) (oi := { dst := some 10, op := Op.assign (Operand.tmp 78), type := 26, pos := "outright.go:207", after := #[{ on := 9, ground := Ground.data }, { on := 10, ground := Ground.chain }, { on := 0, ground := Ground.phase }, { on := 1, ground := Ground.phase }, { on := 2, ground := Ground.phase }, { on := 3, ground := Ground.phase }, { on := 4, ground := Ground.phase }, { on := 5, ground := Ground.phase }, { on := 6, ground := Ground.phase }, { on := 7, ground := Ground.phase }, { on := 8, ground := Ground.phase }, { on := 9, ground := Ground.phase }, { on := 10, ground := Ground.phase }], guard := none }) (v := ?v29_11) (by kernel_rfl) (by kernel_rfl) (by kernel_rfl) (by kernel_rfl) (fun _ _ _ h => h) (Or.inl ⟨by kernel_rfl, ?h29_11⟩) hHeld ?r29_11
      case h29_11 => (intro w hSw; (try dsimp only at hSw); go_simp; try with_reducible rfl)
      try simp only [Act.put, List.setIfInBounds_toArray, List.set_cons_zero, List.set_cons_succ]
      refine wpAnyH_done (by kernel_rfl) ?_ _
      go_wp2_with fail
      go_at_call 14; refine ((HTX.out) _ (below_then hb5 hHeld)).mono ?_; rintro e w8 ⟨rfl, hb8⟩
      have hbk8 := (hbk4.later hHeld).later hb8
      have q0 := hbk8.cell 0
      have q1 := hbk8.cell 1
      have q2 := hbk8.cell 2
      simp only [List.getElem?_toArray, List.getElem?_cons_zero, List.getElem?_cons_succ] at q0 q1 q2
      go_wp2_with fail
      go_at_call 27; refine ((HRIG.out) _).mono ?_; rintro e w9 ⟨rfl, hb9⟩
      go_wp2_with fail
      go_ret
      exact ⟨rfl, below_then hbw (below_then hb5 (below_then hHeld (below_then hb8 hb9)))⟩
  · skip
    go_simp
    have HB4 := (Blk.new w4 39 #[str [122, 101, 98, 114, 97], .int .u8 6, str [90, 101, 98, 114, 97]]).drew
    have hKeep := Below.alloc hHeld hHeld.size (.cells #[str [122, 101, 98, 114, 97], .int .u8 6, str [90, 101, 98, 114, 97]] 39)
    refine hK.out _ _ (by exact hKeep) (fun hHeld => ?_)
    clear hK K
    try simp only [Act.put, List.setIfInBounds_toArray, List.set_cons_zero, List.set_cons_succ]
    refine wpAnyH_ready (rs := [0]) (by kernel_rfl) (by simp) ?_
    refine AllReadyH.cons (i := 0) (o := { dst := some 70, op := Op.buildSlice 33 0 #[], type := 33, pos := "outright.go:207", after := #[], guard := none }) rfl (fun K hK => ?_) AllReadyH.nil
    go_simp
    have HR1 : ((w4.alloc (.cells #[str [122, 101, 98, 114, 97], .int .u8 6, str [90, 101, 98, 114, 97]] 39)).alloc (.cells #[] 39)).drew.ownsRow w4.heap.size 39 3 (.slice (some ⟨w4.heap.size + 1, 0, none⟩) 0 0) 0 [] := (by have h := (own_empty (w4.alloc (.cells #[str [122, 101, 98, 114, 97], .int .u8 6, str [90, 101, 98, 114, 97]] 39)) w4.heap.size 39 (by simp)).drew; rw [World.size_alloc] at h; exact h)
    have HB5 := HB4.alloc (.cells #[] 39)
    have hKeep := Below.alloc hHeld hHeld.size (.cells #[] 39)
    refine hK.out _ _ (by exact hKeep) (fun hHeld => ?_)
    clear hK K
    try simp only [Act.put, List.setIfInBounds_toArray, List.set_cons_zero, List.set_cons_succ]
    refine wpAnyH_ready (rs := [2]) (by kernel_rfl) (by simp) ?_
    refine AllReadyH.cons (i := 2) (o := { dst := some 72, op := Op.call { callee := Callee.builtin Builtin.append, args := #[Operand.tmp 70, Operand.tmp 71], argTypes := #[33, 33] }, type := 33, pos := "outright.go:207", after := #[{ on := 0, ground := Ground.data }, { on := 1, ground := Ground.data }], guard := none }) rfl (fun K hK => ?_) AllReadyH.nil
    refine step_append_any _ (by rfl) _ _ _ (by rfl) w4.heap.size 39 i0 _ 3 40 Tryd.underlying33 hi hz0 hz1 hz2 rfl (by decide) _ 0 [] (by rfl) HR1 _ A l.length c (flat l) (by rfl) (HRW.out.below hHeld) (flat_one l) (by unfold maxLen; omega) (by omega) hHeld.size ?_
    intro v5 w5 hown5 hg5 hat5
    have hKeep : Below w4.heap.size w4 w5 := hHeld.grown hg5 hHeld.size (own_ge HR1)
    have HB6 := HB5.grown hg5 (by simp [Value.ownBlock])
    refine hK.out _ _ (by exact hKeep) (fun hHeld => ?_)
    clear hK K
    try simp only [Act.put, List.setIfInBounds_toArray, List.set_cons_zero, List.set_cons_succ]
    refine wpAnyH_ready (rs := [5]) (by kernel_rfl) (by simp) ?_
    refine AllReadyH.cons (i := 5) (o := { dst := some 75, op := Op.call { callee := Callee.builtin Builtin.append, args := #[Operand.tmp 72, Operand.tmp 74], argTypes := #[33, 33] }, type := 33, pos := "outright.go:207", after := #[{ on := 2, ground := Ground.data }, { on := 4, ground := Ground.data }, { on := 2, ground := Ground.chain }], guard := none }) rfl (fun K hK => ?_) AllReadyH.nil
    refine step_append_any _ (by rfl) _ _ _ (by rfl) w4.heap.size 39 i0 _ 3 40 Tryd.underlying33 hi hz0 hz1 hz2 rfl (by decide) v5 (0 + l.length) ([] ++ flat l) (by rfl) hown5 _ (some ⟨w4.heap.size, 0, none⟩) 1 1 [str [122, 101, 98, 114, 97], .int .u8 6, str [90, 101, 98, 114, 97]] (by rfl) (blk_reads HB6 rfl) (by simp [Value.oneCell']) (by unfold maxLen; omega) (by omega) hHeld.size ?_
    intro v6 w6 hown6 hg6 hat6
    obtain ⟨A6, c6, rfl, hc6⟩ := own_form hown6
    have HRD6 := Reads.of_own hown6
    rw [Nat.zero_add, List.nil_append] at HRD6
    have hKeep : Below w4.heap.size w4 w6 := hHeld.grown hg6 hHeld.size (own_ge hown5)
    refine hK.out _ _ (by exact hKeep) (fun hHeld => ?_)
    clear hK K
    try simp only [Act.put, List.setIfInBounds_toArray, List.set_cons_zero, List.set_cons_succ]
    refine wpAnyH_ready (rs := [6]) (by kernel_rfl) (by simp) ?_
    refine AllReadyH.cons (i := 6) (o := { dst := some 76, op := Op.call { callee := Callee.value (Operand.func 18), args := #[Operand.tmp 75, Operand.const (Value.string { data := #[122, 101, 98, 114, 97] })], argTypes := #[33, 9] }, type := 36, pos := "outright.go:207", after := #[{ on := 5, ground := Ground.data }, { on := 5, ground := Ground.chain }], guard := none }) rfl (fun K hK => ?_) AllReadyH.nil
    go_simp
    refine (look_bad l ([122, 101, 98, 114, 97], 6, [90, 101, 98, 114, 97]) [122, 101, 98, 114, 97] A6 (l.length + 1) c6 w6 rfl HRT.out HLW.out (by simp) (by omega) _ rfl HRD6).mono ?_
    rintro e6 w7 ⟨A7, c7, rfl, hb7⟩
    have hKeep : Below w4.heap.size w4 w7 := hHeld.trans (hb7.mono hHeld.size)
    go_wp2_with fail
    refine hK.out _ _ (by exact hKeep) (fun hHeld => ?_)
    clear hK K
    try simp only [Act.put, List.setIfInBounds_toArray, List.set_cons_zero, List.set_cons_succ]
    refine wpAnyH_take (i := 7) (oi := { dst := some 69, op := Op.move (Operand.tmp 76), type := 36, pos := "outright.go:207", after := #[{ on := 6, ground := Ground.data }], guard := none }) (v := ?v30_7) (by kernel_rfl) (by kernel_rfl) (by kernel_rfl) (by kernel_rfl) (fun _ _ _ h => h) (Or.inl ⟨by kernel_rfl, ?h30_7⟩) hHeld ?r30_7
    case h30_7 => (intro w hSw; (try dsimp only at hSw); go_simp; try with_reducible rfl)
    try simp only [Act.put, List.setIfInBounds_toArray, List.set_cons_zero, List.set_cons_succ]
    refine wpAnyH_take (i := 8) (oi := { dst := some 77, op := Op.extract (Operand.tmp 69) 0, type := 35, pos := "outright.go:207", after := #[{ on := 7, ground := Ground.data }], guard := none }) (v := ?v30_8) (by kernel_rfl) (by kernel_rfl) (by kernel_rfl) (by kernel_rfl) (fun _ _ _ h => h) (Or.inl ⟨by kernel_rfl, ?h30_8⟩) hHeld ?r30_8
    case h30_8 => (intro w hSw; (try dsimp only at hSw); go_simp; try with_reducible rfl)
    try simp only [Act.put, List.setIfInBounds_toArray, List.set_cons_zero, List.set_cons_succ]
    refine wpAnyH_take (i := 9) (oi := { dst := some 78, op := Op.extract (Operand.tmp 69) 1, type := 26, pos := "outright.go:207", after := #[{ on := 7, ground := Ground.data }, { on := 10, ground := Ground.gcOnly Departure.lateStores }], guard := none }) (v := ?v30_9) (by kernel_rfl) (by kernel_rfl) (by kernel_rfl) (by kernel_rfl) (fun _ _ _ h => h) (Or.inl ⟨by kernel_rfl, ?h30_9⟩) hHeld ?r30_9
    case h30_9 => (intro w hSw; (try dsimp only at hSw); go_simp; try with_reducible rfl)
    try simp only [Act.put, List.setIfInBounds_toArray, List.set_cons_zero, List.set_cons_succ]
    refine wpAnyH_take (i := 10) (oi := { dst := some 9, op := Op.assign (Operand.tmp 77), type := 35, pos := "outright.go:207", after := #[{ on := 8, ground := Ground.data }, { on := 6, ground := Ground.chain }, { on := 0, ground := Ground.phase }, { on := 1, ground := Ground.phase }, { on := 2, ground := Ground.phase }, { on := 3, ground := Ground.phase }, { on := 4, ground := Ground.phase }, { on := 5, ground := Ground.phase }, { on := 6, ground := Ground.phase }, { on := 7, ground := Ground.phase }, { on := 8, ground := Ground.phase }, { on := 9, ground := Ground.textOnly Departure.lateStores }], guard := none }) (v := ?v30_10) (by kernel_rfl) (by kernel_rfl) (by kernel_rfl) (by kernel_rfl) (fun _ _ _ h => h) (Or.inl ⟨by kernel_rfl, ?h30_10⟩) hHeld ?r30_10
    case h30_10 => (intro w hSw; (try dsimp only at hSw); go_simp; try with_reducible rfl)
    try simp only [Act.put, List.setIfInBounds_toArray, List.set_cons_zero, List.set_cons_succ]
    refine wpAnyH_take (i := 11) (oi := { dst := some 10, op := Op.assign (Operand.tmp 78), type := 26, pos := "outright.go:207", after := #[{ on := 9, ground := Ground.data }, { on := 10, ground := Ground.chain }, { on := 0, ground := Ground.phase }, { on := 1, ground := Ground.phase }, { on := 2, ground := Ground.phase }, { on := 3, ground := Ground.phase }, { on := 4, ground := Ground.phase }, { on := 5, ground := Ground.phase }, { on := 6, ground := Ground.phase }, { on := 7, ground := Ground.phase }, { on := 8, ground := Ground.phase }, { on := 9, ground := Ground.phase }, { on := 10, ground := Ground.phase }], guard := none }) (v := ?v30_11) (by kernel_rfl) (by kernel_rfl) (by kernel_rfl) (by kernel_rfl) (fun _ _ _ h => h) (Or.inl ⟨by kernel_rfl, ?h30_11⟩) hHeld ?r30_11
    case h30_11 => (intro w hSw; (try dsimp only at hSw); go_simp; try with_reducible rfl)
    try simp only [Act.put, List.setIfInBounds_toArray, List.set_cons_zero, List.set_cons_succ]
    refine wpAnyH_done (by kernel_rfl) ?_ _
    go_wp2_with fail
    go_at_call 14; refine ((HTX.out) _ (below_then hb5 hHeld)).mono ?_; rintro e w8 ⟨rfl, hb8⟩
    have hbk8 := (hbk4.later hHeld).later hb8
    have q0 := hbk8.cell 0
    have q1 := hbk8.cell 1
    have q2 := hbk8.cell 2
    simp only [List.getElem?_toArray, List.getElem?_cons_zero, List.getElem?_cons_succ] at q0 q1 q2
    go_wp2_with fail
    go_at_call 27; refine ((HRIG.out) _).mono ?_; rintro e w9 ⟨rfl, hb9⟩
    go_wp2_with fail
    go_ret
    exact ⟨rfl, below_then hbw (below_then hb5 (below_then hHeld (below_then hb8 hb9)))⟩
set_option maxRecDepth 100000 in
set_option maxHeartbeats 6400000 in
theorem wrong_6 (l : List Ent) (f : Int) (A : Option Addr) (c : Nat) (w : World) (h0 : 0 ≤ f) (h1 : f < 256) (hf : f % 8 = 6) (hv : validL l = true) (hsm : smallL l = true) (hr : Reads w w.heap.size 3 A l.length (flat l)) (hle : l.length ≤ c) :
    Calls Tryd.prog 10 #[.slice A l.length c, .int .u8 f] w fun e w' => e = .returned (.bool true) ∧ Below w.heap.size w w' := by
  obtain ⟨hl, hsz⟩ := small_each hsm
  obtain ⟨i0, hi, hz0, hz1, hz2⟩ := info_parts infoEnt
  have HSM := Lib.hid hsm
  have HV := Lib.hid hv
  have HS := Lib.hid hsz
  have HR := Lib.hid hr
  clear hsm hv hsz hr
  go_enter Tryd.func10, Tryd.ntmps10
  go_wp2_with fail
  go_at_call 12; refine (awake_any _).mono ?_; rintro e w1 ⟨rfl, hb1⟩
  go_wp2_with fail
  go_at_call 17; refine (small_any l A c _ ((HR.out).later hb1) (fun e h => by have := HS.out e h; unfold maxLen; omega)).mono ?_; rw [HSM.out]; rintro e w2 ⟨rfl, rfl⟩
  go_wp2_with fail
  go_at_call 19; refine (valid_any l A c _ (fun e h => by have := (HS.out e h).1; omega) hle ((HR.out).later hb1)).mono ?_; rw [HV.out]; rintro e w3 ⟨rfl, hb3⟩
  go_wp2_with fail
  obtain ⟨W1, hW1⟩ : ∃ W1 : World, W1 = (w3.alloc (.cells #[str [122, 101, 98, 114, 97], .int .u8 3, str [90, 101, 98, 114, 97]] 39)).alloc (.cells #[str [65, 110, 110], str [115, 108, 101, 101, 112, 115], str [46]] 9) := ⟨_, rfl⟩
  have hb4 : Below w3.heap.size w3 W1 := by rw [hW1]; exact ((Below.refl _ _).alloc (Nat.le_refl _) _).alloc (by simp) _
  have hbk : Blk W1 w3.heap.size 39 #[str [122, 101, 98, 114, 97], .int .u8 3, str [90, 101, 98, 114, 97]] := by rw [hW1]; exact (Blk.new w3 _ _).alloc _
  have HTX : Hid (∀ W, Below W1.heap.size W1 W → Calls Tryd.prog 14 #[.slice none 0 0] W fun e w' => e = .returned (.tuple #[str [], .int .i64 2]) ∧ Below W.heap.size W w') := fun W hb => text_no [] none 0 W (by kernel_rfl) (by simp) (by simp) (by simp) Reads.none_
  have HRT : Hid (rightL ([122, 101, 98, 114, 97], 3, [90, 101, 98, 114, 97]) = false) := (by kernel_rfl : rightL ([122, 101, 98, 114, 97], 3, [90, 101, 98, 114, 97]) = false)
  have hbw := below_then hb1 (below_then hb3 hb4)
  have HRl := Lib.hid ((HR.out).later hbw)
  have HLW : Hid (∀ x ∈ l, x.1.length ≤ 1048576) := fun x h => by have := (HS.out x h).1; omega
  have HADD : Hid (Calls Tryd.prog 26 #[.slice A l.length c, .agg #[str [122, 101, 98, 114, 97], .int .u8 3, str [90, 101, 98, 114, 97]]] W1 fun e' w' => e' = .returned (.tuple #[.slice none 0 0, .int .i64 2]) ∧ Below W1.heap.size W1 w') := add_bad l ([122, 101, 98, 114, 97], 3, [90, 101, 98, 114, 97]) A c W1 (by omega) HLW.out hle HRl.out (by simp) (by rw [HRT.out, Bool.and_false])
  have HRIG : Hid (∀ W : World, Calls Tryd.prog 27 #[.agg #[str [122, 101, 98, 114, 97], .int .u8 3, str [90, 101, 98, 114, 97]]] W fun e' w' => e' = .returned (.bool false) ∧ Below W.heap.size W w') := fun W => (right_any [122, 101, 98, 114, 97] 3 [90, 101, 98, 114, 97] W (by simp)).mono fun e' w' h => by rw [show rightL ([122, 101, 98, 114, 97], 3, [90, 101, 98, 114, 97]) = false from HRT.out] at h; exact h
  rw [← hW1]
  clear hW1
  refine (HADD.out).mono ?_; rintro e w4 ⟨rfl, hb5⟩
  have hbk4 := hbk.later hb5
  have k0 := hbk4.cell 0
  have k1 := hbk4.cell 1
  have k2 := hbk4.cell 2
  simp only [List.getElem?_toArray, List.getElem?_cons_zero, List.getElem?_cons_succ] at k0 k1 k2
  have HRW := Lib.hid ((HRl.out).later hb5)
  go_wp2_with fail
  refine wp_region_held_drew (S := fun W => Below w4.heap.size w4 W) (by kernel_rfl) (by exact (Below.refl _ _).drew) (fun hHeld => ?_)
  refine wpAnyH_take (i := 1) (oi := { dst := some 71, op := Op.move (Operand.tmp 0), type := 33, pos := "outright.go:207", after := #[], guard := none }) (v := ?v31_1) (by kernel_rfl) (by kernel_rfl) (by kernel_rfl) (by kernel_rfl) (fun _ _ _ h => h) (Or.inl ⟨by kernel_rfl, ?h31_1⟩) hHeld ?r31_1
  case h31_1 => (intro w hSw; (try dsimp only at hSw); go_simp; try with_reducible rfl)
  try simp only [Act.put, List.setIfInBounds_toArray, List.set_cons_zero, List.set_cons_succ]
  refine wpAnyH_take (i := 3) (oi := { dst := some 73, op := Op.load 39 (Operand.tmp 5), type := 39, pos := "outright.go:207", after := #[], guard := none }) (v := ?v31_3) (by kernel_rfl) (by kernel_rfl) (by kernel_rfl) (by kernel_rfl) (fun _ _ _ h => h) (Or.inl ⟨by kernel_rfl, ?h31_3⟩) hHeld ?r31_3
  case h31_3 => (intro w hSw; (try dsimp only at hSw); have m0 := (hSw.cell (p := ⟨w3.heap.size, 0, none⟩) hbk4.lt).trans k0; have m1 := (hSw.cell (p := ⟨w3.heap.size, 1, none⟩) hbk4.lt).trans k1; have m2 := (hSw.cell (p := ⟨w3.heap.size, 2, none⟩) hbk4.lt).trans k2; go_simp; try with_reducible rfl)
  try simp only [Act.put, List.setIfInBounds_toArray, List.set_cons_zero, List.set_cons_succ]
  refine wpAnyH_ready (rs := [0, 4]) (by kernel_rfl) (by simp) ?_
  refine AllReadyH.cons (i := 0) (o := { dst := some 70, op := Op.buildSlice 33 0 #[], type := 33, pos := "outright.go:207", after := #[], guard := none }) rfl (fun K hK => ?_) (AllReadyH.cons (i := 4) (o := { dst := some 74, op := Op.buildSlice 33 1 #[(0, Operand.tmp 73)], type := 33, pos := "outright.go:207", after := #[{ on := 3, ground := Ground.data }], guard := none }) rfl (fun K hK => ?_) AllReadyH.nil)
  · skip
    go_simp
    have HR0 := (own_empty w4 w4.heap.size 39 (Nat.le_refl _)).drew
    have hKeep := Below.alloc hHeld hHeld.size (.cells #[] 39)
    refine hK.out _ _ (by exact hKeep) (fun hHeld => ?_)
    clear hK K
    try simp only [Act.put, List.setIfInBounds_toArray, List.set_cons_zero, List.set_cons_succ]
    refine wpAnyH_ready (rs := [2, 4]) (by kernel_rfl) (by simp) ?_
    refine AllReadyH.cons (i := 2) (o := { dst := some 72, op := Op.call { callee := Callee.builtin Builtin.append, args := #[Operand.tmp 70, Operand.tmp 71], argTypes := #[33, 33] }, type := 33, pos := "outright.go:207", after := #[{ on := 0, ground := Ground.data }, { on := 1, ground := Ground.data }], guard := none }) rfl (fun K hK => ?_) (AllReadyH.cons (i := 4) (o := { dst := some 74, op := Op.buildSlice 33 1 #[(0, Operand.tmp 73)], type := 33, pos := "outright.go:207", after := #[{ on := 3, ground := Ground.data }], guard := none }) rfl (fun K hK => ?_) AllReadyH.nil)
    · skip
      refine step_append_any _ (by rfl) _ _ _ (by rfl) w4.heap.size 39 i0 _ 3 40 Tryd.underlying33 hi hz0 hz1 hz2 rfl (by decide) _ 0 [] (by rfl) HR0 _ A l.length c (flat l) (by rfl) (HRW.out.below hHeld) (flat_one l) (by unfold maxLen; omega) (by omega) hHeld.size ?_
      intro v5 w5 hown5 hg5 hat5
      have hKeep : Below w4.heap.size w4 w5 := hHeld.grown hg5 hHeld.size (own_ge HR0)
      refine hK.out _ _ (by exact hKeep) (fun hHeld => ?_)
      clear hK K
      try simp only [Act.put, List.setIfInBounds_toArray, List.set_cons_zero, List.set_cons_succ]
      refine wpAnyH_ready (rs := [4]) (by kernel_rfl) (by simp) ?_
      refine AllReadyH.cons (i := 4) (o := { dst := some 74, op := Op.buildSlice 33 1 #[(0, Operand.tmp 73)], type := 33, pos := "outright.go:207", after := #[{ on := 3, ground := Ground.data }], guard := none }) rfl (fun K hK => ?_) AllReadyH.nil
      go_simp
      have HB4 := Blk.new w5 39 #[str [122, 101, 98, 114, 97], .int .u8 3, str [90, 101, 98, 114, 97]]
      have HO := hown5.alloc (.cells #[str [122, 101, 98, 114, 97], .int .u8 3, str [90, 101, 98, 114, 97]] 39)
      have hKeep := Below.alloc hHeld hHeld.size (.cells #[str [122, 101, 98, 114, 97], .int .u8 3, str [90, 101, 98, 114, 97]] 39)
      refine hK.out _ _ (by exact hKeep) (fun hHeld => ?_)
      clear hK K
      try simp only [Act.put, List.setIfInBounds_toArray, List.set_cons_zero, List.set_cons_succ]
      refine wpAnyH_ready (rs := [5]) (by kernel_rfl) (by simp) ?_
      refine AllReadyH.cons (i := 5) (o := { dst := some 75, op := Op.call { callee := Callee.builtin Builtin.append, args := #[Operand.tmp 72, Operand.tmp 74], argTypes := #[33, 33] }, type := 33, pos := "outright.go:207", after := #[{ on := 2, ground := Ground.data }, { on := 4, ground := Ground.data }, { on := 2, ground := Ground.chain }], guard := none }) rfl (fun K hK => ?_) AllReadyH.nil
      refine step_append_any _ (by rfl) _ _ _ (by rfl) w4.heap.size 39 i0 _ 3 40 Tryd.underlying33 hi hz0 hz1 hz2 rfl (by decide) v5 (0 + l.length) ([] ++ flat l) (by rfl) HO _ (some ⟨w5.heap.size, 0, none⟩) 1 1 [str [122, 101, 98, 114, 97], .int .u8 3, str [90, 101, 98, 114, 97]] (by rfl) (blk_reads HB4 rfl) (by simp [Value.oneCell']) (by unfold maxLen; omega) (by omega) hHeld.size ?_
      intro v6 w6 hown6 hg6 hat6
      obtain ⟨A6, c6, rfl, hc6⟩ := own_form hown6
      have HRD6 := Reads.of_own hown6
      rw [Nat.zero_add, List.nil_append] at HRD6
      have hKeep : Below w4.heap.size w4 w6 := hHeld.grown hg6 hHeld.size (own_ge HO)
      refine hK.out _ _ (by exact hKeep) (fun hHeld => ?_)
      clear hK K
      try simp only [Act.put, List.setIfInBounds_toArray, List.set_cons_zero, List.set_cons_succ]
      refine wpAnyH_ready (rs := [6]) (by kernel_rfl) (by simp) ?_
      refine AllReadyH.cons (i := 6) (o := { dst := some 76, op := Op.call { callee := Callee.value (Operand.func 18), args := #[Operand.tmp 75, Operand.const (Value.string { data := #[122, 101, 98, 114, 97] })], argTypes := #[33, 9] }, type := 36, pos := "outright.go:207", after := #[{ on := 5, ground := Ground.data }, { on := 5, ground := Ground.chain }], guard := none }) rfl (fun K hK => ?_) AllReadyH.nil
      go_simp
      refine (look_bad l ([122, 101, 98, 114, 97], 3, [90, 101, 98, 114, 97]) [122, 101, 98, 114, 97] A6 (l.length + 1) c6 w6 rfl HRT.out HLW.out (by simp) (by omega) _ rfl HRD6).mono ?_
      rintro e6 w7 ⟨A7, c7, rfl, hb7⟩
      have hKeep : Below w4.heap.size w4 w7 := hHeld.trans (hb7.mono hHeld.size)
      go_wp2_with fail
      refine hK.out _ _ (by exact hKeep) (fun hHeld => ?_)
      clear hK K
      try simp only [Act.put, List.setIfInBounds_toArray, List.set_cons_zero, List.set_cons_succ]
      refine wpAnyH_take (i := 7) (oi := { dst := some 69, op := Op.move (Operand.tmp 76), type := 36, pos := "outright.go:207", after := #[{ on := 6, ground := Ground.data }], guard := none }) (v := ?v33_7) (by kernel_rfl) (by kernel_rfl) (by kernel_rfl) (by kernel_rfl) (fun _ _ _ h => h) (Or.inl ⟨by kernel_rfl, ?h33_7⟩) hHeld ?r33_7
      case h33_7 => (intro w hSw; (try dsimp only at hSw); go_simp; try with_reducible rfl)
      try simp only [Act.put, List.setIfInBounds_toArray, List.set_cons_zero, List.set_cons_succ]
      refine wpAnyH_take (i := 8) (oi := { dst := some 77, op := Op.extract (Operand.tmp 69) 0, type := 35, pos := "outright.go:207", after := #[{ on := 7, ground := Ground.data }], guard := none }) (v := ?v33_8) (by kernel_rfl) (by kernel_rfl) (by kernel_rfl) (by kernel_rfl) (fun _ _ _ h => h) (Or.inl ⟨by kernel_rfl, ?h33_8⟩) hHeld ?r33_8
      case h33_8 => (intro w hSw; (try dsimp only at hSw); go_simp; try with_reducible rfl)
      try simp only [Act.put, List.setIfInBounds_toArray, List.set_cons_zero, List.set_cons_succ]
      refine wpAnyH_take (i := 9) (oi := { dst := some 78, op := Op.extract (Operand.tmp 69) 1, type := 26, pos := "outright.go:207", after := #[{ on := 7, ground := Ground.data }, { on := 10, ground := Ground.gcOnly Departure.lateStores }], guard := none }) (v := ?v33_9) (by kernel_rfl) (by kernel_rfl) (by kernel_rfl) (by kernel_rfl) (fun _ _ _ h => h) (Or.inl ⟨by kernel_rfl, ?h33_9⟩) hHeld ?r33_9
      case h33_9 => (intro w hSw; (try dsimp only at hSw); go_simp; try with_reducible rfl)
      try simp only [Act.put, List.setIfInBounds_toArray, List.set_cons_zero, List.set_cons_succ]
      refine wpAnyH_take (i := 10) (oi := { dst := some 9, op := Op.assign (Operand.tmp 77), type := 35, pos := "outright.go:207", after := #[{ on := 8, ground := Ground.data }, { on := 6, ground := Ground.chain }, { on := 0, ground := Ground.phase }, { on := 1, ground := Ground.phase }, { on := 2, ground := Ground.phase }, { on := 3, ground := Ground.phase }, { on := 4, ground := Ground.phase }, { on := 5, ground := Ground.phase }, { on := 6, ground := Ground.phase }, { on := 7, ground := Ground.phase }, { on := 8, ground := Ground.phase }, { on := 9, ground := Ground.textOnly Departure.lateStores }], guard := none }) (v := ?v33_10) (by kernel_rfl) (by kernel_rfl) (by kernel_rfl) (by kernel_rfl) (fun _ _ _ h => h) (Or.inl ⟨by kernel_rfl, ?h33_10⟩) hHeld ?r33_10
      case h33_10 => (intro w hSw; (try dsimp only at hSw); go_simp; try with_reducible rfl)
      try simp only [Act.put, List.setIfInBounds_toArray, List.set_cons_zero, List.set_cons_succ]
      refine wpAnyH_take (i := 11) (oi := { dst := some 10, op := Op.assign (Operand.tmp 78), type := 26, pos := "outright.go:207", after := #[{ on := 9, ground := Ground.data }, { on := 10, ground := Ground.chain }, { on := 0, ground := Ground.phase }, { on := 1, ground := Ground.phase }, { on := 2, ground := Ground.phase }, { on := 3, ground := Ground.phase }, { on := 4, ground := Ground.phase }, { on := 5, ground := Ground.phase }, { on := 6, ground := Ground.phase }, { on := 7, ground := Ground.phase }, { on := 8, ground := Ground.phase }, { on := 9, ground := Ground.phase }, { on := 10, ground := Ground.phase }], guard := none }) (v := ?v33_11) (by kernel_rfl) (by kernel_rfl) (by kernel_rfl) (by kernel_rfl) (fun _ _ _ h => h) (Or.inl ⟨by kernel_rfl, ?h33_11⟩) hHeld ?r33_11
      case h33_11 => (intro w hSw; (try dsimp only at hSw); go_simp; try with_reducible rfl)
      try simp only [Act.put, List.setIfInBounds_toArray, List.set_cons_zero, List.set_cons_succ]
      refine wpAnyH_done (by kernel_rfl) ?_ _
      go_wp2_with fail
      go_at_call 14; refine ((HTX.out) _ (below_then hb5 hHeld)).mono ?_; rintro e w8 ⟨rfl, hb8⟩
      have hbk8 := (hbk4.later hHeld).later hb8
      have q0 := hbk8.cell 0
      have q1 := hbk8.cell 1
      have q2 := hbk8.cell 2
      simp only [List.getElem?_toArray, List.getElem?_cons_zero, List.getElem?_cons_succ] at q0 q1 q2
      go_wp2_with fail
      go_at_call 27; refine ((HRIG.out) _).mono ?_; rintro e w9 ⟨rfl, hb9⟩
      go_wp2_with fail
      go_ret
      exact ⟨rfl, below_then hbw (below_then hb5 (below_then hHeld (below_then hb8 hb9)))⟩
    · skip
      go_simp
      have HB4 : Blk ((w4.alloc (.cells #[] 39)).alloc (.cells #[str [122, 101, 98, 114, 97], .int .u8 3, str [90, 101, 98, 114, 97]] 39)).drew (w4.heap.size + 1) 39 #[str [122, 101, 98, 114, 97], .int .u8 3, str [90, 101, 98, 114, 97]] := (by have h := Blk.new (w4.alloc (.cells #[] 39)) 39 #[str [122, 101, 98, 114, 97], .int .u8 3, str [90, 101, 98, 114, 97]]; rw [World.size_alloc] at h; exact h.drew)
      have HR1 := (HR0.alloc (.cells #[str [122, 101, 98, 114, 97], .int .u8 3, str [90, 101, 98, 114, 97]] 39))
      have hKeep := Below.alloc hHeld hHeld.size (.cells #[str [122, 101, 98, 114, 97], .int .u8 3, str [90, 101, 98, 114, 97]] 39)
      refine hK.out _ _ (by exact hKeep) (fun hHeld => ?_)
      clear hK K
      try simp only [Act.put, List.setIfInBounds_toArray, List.set_cons_zero, List.set_cons_succ]
      refine wpAnyH_ready (rs := [2]) (by kernel_rfl) (by simp) ?_
      refine AllReadyH.cons (i := 2) (o := { dst := some 72, op := Op.call { callee := Callee.builtin Builtin.append, args := #[Operand.tmp 70, Operand.tmp 71], argTypes := #[33, 33] }, type := 33, pos := "outright.go:207", after := #[{ on := 0, ground := Ground.data }, { on := 1, ground := Ground.data }], guard := none }) rfl (fun K hK => ?_) AllReadyH.nil
      refine step_append_any _ (by rfl) _ _ _ (by rfl) w4.heap.size 39 i0 _ 3 40 Tryd.underlying33 hi hz0 hz1 hz2 rfl (by decide) _ 0 [] (by rfl) HR1 _ A l.length c (flat l) (by rfl) (HRW.out.below hHeld) (flat_one l) (by unfold maxLen; omega) (by omega) hHeld.size ?_
      intro v5 w5 hown5 hg5 hat5
      have hKeep : Below w4.heap.size w4 w5 := hHeld.grown hg5 hHeld.size (own_ge HR1)
      have HB5 := HB4.grown hg5 (by simp [Value.ownBlock])
      refine hK.out _ _ (by exact hKeep) (fun hHeld => ?_)
      clear hK K
      try simp only [Act.put, List.setIfInBounds_toArray, List.set_cons_zero, List.set_cons_succ]
      refine wpAnyH_ready (rs := [5]) (by kernel_rfl) (by simp) ?_
      refine AllReadyH.cons (i := 5) (o := { dst := some 75, op := Op.call { callee := Callee.builtin Builtin.append, args := #[Operand.tmp 72, Operand.tmp 74], argTypes := #[33, 33] }, type := 33, pos := "outright.go:207", after := #[{ on := 2, ground := Ground.data }, { on := 4, ground := Ground.data }, { on := 2, ground := Ground.chain }], guard := none }) rfl (fun K hK => ?_) AllReadyH.nil
      refine step_append_any _ (by rfl) _ _ _ (by rfl) w4.heap.size 39 i0 _ 3 40 Tryd.underlying33 hi hz0 hz1 hz2 rfl (by decide) v5 (0 + l.length) ([] ++ flat l) (by rfl) hown5 _ (some ⟨(w4.heap.size + 1), 0, none⟩) 1 1 [str [122, 101, 98, 114, 97], .int .u8 3, str [90, 101, 98, 114, 97]] (by rfl) (blk_reads HB5 rfl) (by simp [Value.oneCell']) (by unfold maxLen; omega) (by omega) hHeld.size ?_
      intro v6 w6 hown6 hg6 hat6
      obtain ⟨A6, c6, rfl, hc6⟩ := own_form hown6
      have HRD6 := Reads.of_own hown6
      rw [Nat.zero_add, List.nil_append] at HRD6
      have hKeep : Below w4.heap.size w4 w6 := hHeld.grown hg6 hHeld.size (own_ge hown5)
      refine hK.out _ _ (by exact hKeep) (fun hHeld => ?_)
      clear hK K
      try simp only [Act.put, List.setIfInBounds_toArray, List.set_cons_zero, List.set_cons_succ]
      refine wpAnyH_ready (rs := [6]) (by kernel_rfl) (by simp) ?_
      refine AllReadyH.cons (i := 6) (o := { dst := some 76, op := Op.call { callee := Callee.value (Operand.func 18), args := #[Operand.tmp 75, Operand.const (Value.string { data := #[122, 101, 98, 114, 97] })], argTypes := #[33, 9] }, type := 36, pos := "outright.go:207", after := #[{ on := 5, ground := Ground.data }, { on := 5, ground := Ground.chain }], guard := none }) rfl (fun K hK => ?_) AllReadyH.nil
      go_simp
      refine (look_bad l ([122, 101, 98, 114, 97], 3, [90, 101, 98, 114, 97]) [122, 101, 98, 114, 97] A6 (l.length + 1) c6 w6 rfl HRT.out HLW.out (by simp) (by omega) _ rfl HRD6).mono ?_
      rintro e6 w7 ⟨A7, c7, rfl, hb7⟩
      have hKeep : Below w4.heap.size w4 w7 := hHeld.trans (hb7.mono hHeld.size)
      go_wp2_with fail
      refine hK.out _ _ (by exact hKeep) (fun hHeld => ?_)
      clear hK K
      try simp only [Act.put, List.setIfInBounds_toArray, List.set_cons_zero, List.set_cons_succ]
      refine wpAnyH_take (i := 7) (oi := { dst := some 69, op := Op.move (Operand.tmp 76), type := 36, pos := "outright.go:207", after := #[{ on := 6, ground := Ground.data }], guard := none }) (v := ?v34_7) (by kernel_rfl) (by kernel_rfl) (by kernel_rfl) (by kernel_rfl) (fun _ _ _ h => h) (Or.inl ⟨by kernel_rfl, ?h34_7⟩) hHeld ?r34_7
      case h34_7 => (intro w hSw; (try dsimp only at hSw); go_simp; try with_reducible rfl)
      try simp only [Act.put, List.setIfInBounds_toArray, List.set_cons_zero, List.set_cons_succ]
      refine wpAnyH_take (i := 8) (oi := { dst := some 77, op := Op.extract (Operand.tmp 69) 0, type := 35, pos := "outright.go:207", after := #[{ on := 7, ground := Ground.data }], guard := none }) (v := ?v34_8) (by kernel_rfl) (by kernel_rfl) (by kernel_rfl) (by kernel_rfl) (fun _ _ _ h => h) (Or.inl ⟨by kernel_rfl, ?h34_8⟩) hHeld ?r34_8
      case h34_8 => (intro w hSw; (try dsimp only at hSw); go_simp; try with_reducible rfl)
      try simp only [Act.put, List.setIfInBounds_toArray, List.set_cons_zero, List.set_cons_succ]
      refine wpAnyH_take (i := 9) (oi := { dst := some 78, op := Op.extract (Operand.tmp 69) 1, type := 26, pos := "outright.go:207", after := #[{ on := 7, ground := Ground.data }, { on := 10, ground := Ground.gcOnly Departure.lateStores }], guard := none }) (v := ?v34_9) (by kernel_rfl) (by kernel_rfl) (by kernel_rfl) (by kernel_rfl) (fun _ _ _ h => h) (Or.inl ⟨by kernel_rfl, ?h34_9⟩) hHeld ?r34_9
      case h34_9 => (intro w hSw; (try dsimp only at hSw); go_simp; try with_reducible rfl)
      try simp only [Act.put, List.setIfInBounds_toArray, List.set_cons_zero, List.set_cons_succ]
      refine wpAnyH_take (i := 10) (oi := { dst := some 9, op := Op.assign (Operand.tmp 77), type := 35, pos := "outright.go:207", after := #[{ on := 8, ground := Ground.data }, { on := 6, ground := Ground.chain }, { on := 0, ground := Ground.phase }, { on := 1, ground := Ground.phase }, { on := 2, ground := Ground.phase }, { on := 3, ground := Ground.phase }, { on := 4, ground := Ground.phase }, { on := 5, ground := Ground.phase }, { on := 6, ground := Ground.phase }, { on := 7, ground := Ground.phase }, { on := 8, ground := Ground.phase }, { on := 9, ground := Ground.textOnly Departure.lateStores }], guard := none }) (v := ?v34_10) (by kernel_rfl) (by kernel_rfl) (by kernel_rfl) (by kernel_rfl) (fun _ _ _ h => h) (Or.inl ⟨by kernel_rfl, ?h34_10⟩) hHeld ?r34_10
      case h34_10 => (intro w hSw; (try dsimp only at hSw); go_simp; try with_reducible rfl)
      try simp only [Act.put, List.setIfInBounds_toArray, List.set_cons_zero, List.set_cons_succ]
      refine wpAnyH_take (i := 11) (oi := { dst := some 10, op := Op.assign (Operand.tmp 78), type := 26, pos := "outright.go:207", after := #[{ on := 9, ground := Ground.data }, { on := 10, ground := Ground.chain }, { on := 0, ground := Ground.phase }, { on := 1, ground := Ground.phase }, { on := 2, ground := Ground.phase }, { on := 3, ground := Ground.phase }, { on := 4, ground := Ground.phase }, { on := 5, ground := Ground.phase }, { on := 6, ground := Ground.phase }, { on := 7, ground := Ground.phase }, { on := 8, ground := Ground.phase }, { on := 9, ground := Ground.phase }, { on := 10, ground := Ground.phase }], guard := none }) (v := ?v34_11) (by kernel_rfl) (by kernel_rfl) (by kernel_rfl) (by kernel_rfl) (fun _ _ _ h => h) (Or.inl ⟨by kernel_rfl, ?h34_11⟩) hHeld ?r34_11
      case h34_11 => (intro w hSw; (try dsimp only at hSw); go_simp; try with_reducible rfl)
      try simp only [Act.put, List.setIfInBounds_toArray, List.set_cons_zero, List.set_cons_succ]
      refine wpAnyH_done (by kernel_rfl) ?_ _
      go_wp2_with fail
      go_at_call 14; refine ((HTX.out) _ (below_then hb5 hHeld)).mono ?_; rintro e w8 ⟨rfl, hb8⟩
      have hbk8 := (hbk4.later hHeld).later hb8
      have q0 := hbk8.cell 0
      have q1 := hbk8.cell 1
      have q2 := hbk8.cell 2
      simp only [List.getElem?_toArray, List.getElem?_cons_zero, List.getElem?_cons_succ] at q0 q1 q2
      go_wp2_with fail
      go_at_call 27; refine ((HRIG.out) _).mono ?_; rintro e w9 ⟨rfl, hb9⟩
      go_wp2_with fail
      go_ret
      exact ⟨rfl, below_then hbw (below_then hb5 (below_then hHeld (below_then hb8 hb9)))⟩
  · skip
    go_simp
    have HB4 := (Blk.new w4 39 #[str [122, 101, 98, 114, 97], .int .u8 3, str [90, 101, 98, 114, 97]]).drew
    have hKeep := Below.alloc hHeld hHeld.size (.cells #[str [122, 101, 98, 114, 97], .int .u8 3, str [90, 101, 98, 114, 97]] 39)
    refine hK.out _ _ (by exact hKeep) (fun hHeld => ?_)
    clear hK K
    try simp only [Act.put, List.setIfInBounds_toArray, List.set_cons_zero, List.set_cons_succ]
    refine wpAnyH_ready (rs := [0]) (by kernel_rfl) (by simp) ?_
    refine AllReadyH.cons (i := 0) (o := { dst := some 70, op := Op.buildSlice 33 0 #[], type := 33, pos := "outright.go:207", after := #[], guard := none }) rfl (fun K hK => ?_) AllReadyH.nil
    go_simp
    have HR1 : ((w4.alloc (.cells #[str [122, 101, 98, 114, 97], .int .u8 3, str [90, 101, 98, 114, 97]] 39)).alloc (.cells #[] 39)).drew.ownsRow w4.heap.size 39 3 (.slice (some ⟨w4.heap.size + 1, 0, none⟩) 0 0) 0 [] := (by have h := (own_empty (w4.alloc (.cells #[str [122, 101, 98, 114, 97], .int .u8 3, str [90, 101, 98, 114, 97]] 39)) w4.heap.size 39 (by simp)).drew; rw [World.size_alloc] at h; exact h)
    have HB5 := HB4.alloc (.cells #[] 39)
    have hKeep := Below.alloc hHeld hHeld.size (.cells #[] 39)
    refine hK.out _ _ (by exact hKeep) (fun hHeld => ?_)
    clear hK K
    try simp only [Act.put, List.setIfInBounds_toArray, List.set_cons_zero, List.set_cons_succ]
    refine wpAnyH_ready (rs := [2]) (by kernel_rfl) (by simp) ?_
    refine AllReadyH.cons (i := 2) (o := { dst := some 72, op := Op.call { callee := Callee.builtin Builtin.append, args := #[Operand.tmp 70, Operand.tmp 71], argTypes := #[33, 33] }, type := 33, pos := "outright.go:207", after := #[{ on := 0, ground := Ground.data }, { on := 1, ground := Ground.data }], guard := none }) rfl (fun K hK => ?_) AllReadyH.nil
    refine step_append_any _ (by rfl) _ _ _ (by rfl) w4.heap.size 39 i0 _ 3 40 Tryd.underlying33 hi hz0 hz1 hz2 rfl (by decide) _ 0 [] (by rfl) HR1 _ A l.length c (flat l) (by rfl) (HRW.out.below hHeld) (flat_one l) (by unfold maxLen; omega) (by omega) hHeld.size ?_
    intro v5 w5 hown5 hg5 hat5
    have hKeep : Below w4.heap.size w4 w5 := hHeld.grown hg5 hHeld.size (own_ge HR1)
    have HB6 := HB5.grown hg5 (by simp [Value.ownBlock])
    refine hK.out _ _ (by exact hKeep) (fun hHeld => ?_)
    clear hK K
    try simp only [Act.put, List.setIfInBounds_toArray, List.set_cons_zero, List.set_cons_succ]
    refine wpAnyH_ready (rs := [5]) (by kernel_rfl) (by simp) ?_
    refine AllReadyH.cons (i := 5) (o := { dst := some 75, op := Op.call { callee := Callee.builtin Builtin.append, args := #[Operand.tmp 72, Operand.tmp 74], argTypes := #[33, 33] }, type := 33, pos := "outright.go:207", after := #[{ on := 2, ground := Ground.data }, { on := 4, ground := Ground.data }, { on := 2, ground := Ground.chain }], guard := none }) rfl (fun K hK => ?_) AllReadyH.nil
    refine step_append_any _ (by rfl) _ _ _ (by rfl) w4.heap.size 39 i0 _ 3 40 Tryd.underlying33 hi hz0 hz1 hz2 rfl (by decide) v5 (0 + l.length) ([] ++ flat l) (by rfl) hown5 _ (some ⟨w4.heap.size, 0, none⟩) 1 1 [str [122, 101, 98, 114, 97], .int .u8 3, str [90, 101, 98, 114, 97]] (by rfl) (blk_reads HB6 rfl) (by simp [Value.oneCell']) (by unfold maxLen; omega) (by omega) hHeld.size ?_
    intro v6 w6 hown6 hg6 hat6
    obtain ⟨A6, c6, rfl, hc6⟩ := own_form hown6
    have HRD6 := Reads.of_own hown6
    rw [Nat.zero_add, List.nil_append] at HRD6
    have hKeep : Below w4.heap.size w4 w6 := hHeld.grown hg6 hHeld.size (own_ge hown5)
    refine hK.out _ _ (by exact hKeep) (fun hHeld => ?_)
    clear hK K
    try simp only [Act.put, List.setIfInBounds_toArray, List.set_cons_zero, List.set_cons_succ]
    refine wpAnyH_ready (rs := [6]) (by kernel_rfl) (by simp) ?_
    refine AllReadyH.cons (i := 6) (o := { dst := some 76, op := Op.call { callee := Callee.value (Operand.func 18), args := #[Operand.tmp 75, Operand.const (Value.string { data := #[122, 101, 98, 114, 97] })], argTypes := #[33, 9] }, type := 36, pos := "outright.go:207", after := #[{ on := 5, ground := Ground.data }, { on := 5, ground := Ground.chain }], guard := none }) rfl (fun K hK => ?_) AllReadyH.nil
    go_simp
    refine (look_bad l ([122, 101, 98, 114, 97], 3, [90, 101, 98, 114, 97]) [122, 101, 98, 114, 97] A6 (l.length + 1) c6 w6 rfl HRT.out HLW.out (by simp) (by omega) _ rfl HRD6).mono ?_
    rintro e6 w7 ⟨A7, c7, rfl, hb7⟩
    have hKeep : Below w4.heap.size w4 w7 := hHeld.trans (hb7.mono hHeld.size)
    go_wp2_with fail
    refine hK.out _ _ (by exact hKeep) (fun hHeld => ?_)
    clear hK K
    try simp only [Act.put, List.setIfInBounds_toArray, List.set_cons_zero, List.set_cons_succ]
    refine wpAnyH_take (i := 7) (oi := { dst := some 69, op := Op.move (Operand.tmp 76), type := 36, pos := "outright.go:207", after := #[{ on := 6, ground := Ground.data }], guard := none }) (v := ?v35_7) (by kernel_rfl) (by kernel_rfl) (by kernel_rfl) (by kernel_rfl) (fun _ _ _ h => h) (Or.inl ⟨by kernel_rfl, ?h35_7⟩) hHeld ?r35_7
    case h35_7 => (intro w hSw; (try dsimp only at hSw); go_simp; try with_reducible rfl)
    try simp only [Act.put, List.setIfInBounds_toArray, List.set_cons_zero, List.set_cons_succ]
    refine wpAnyH_take (i := 8) (oi := { dst := some 77, op := Op.extract (Operand.tmp 69) 0, type := 35, pos := "outright.go:207", after := #[{ on := 7, ground := Ground.data }], guard := none }) (v := ?v35_8) (by kernel_rfl) (by kernel_rfl) (by kernel_rfl) (by kernel_rfl) (fun _ _ _ h => h) (Or.inl ⟨by kernel_rfl, ?h35_8⟩) hHeld ?r35_8
    case h35_8 => (intro w hSw; (try dsimp only at hSw); go_simp; try with_reducible rfl)
    try simp only [Act.put, List.setIfInBounds_toArray, List.set_cons_zero, List.set_cons_succ]
    refine wpAnyH_take (i := 9) (oi := { dst := some 78, op := Op.extract (Operand.tmp 69) 1, type := 26, pos := "outright.go:207", after := #[{ on := 7, ground := Ground.data }, { on := 10, ground := Ground.gcOnly Departure.lateStores }], guard := none }) (v := ?v35_9) (by kernel_rfl) (by kernel_rfl) (by kernel_rfl) (by kernel_rfl) (fun _ _ _ h => h) (Or.inl ⟨by kernel_rfl, ?h35_9⟩) hHeld ?r35_9
    case h35_9 => (intro w hSw; (try dsimp only at hSw); go_simp; try with_reducible rfl)
    try simp only [Act.put, List.setIfInBounds_toArray, List.set_cons_zero, List.set_cons_succ]
    refine wpAnyH_take (i := 10) (oi := { dst := some 9, op := Op.assign (Operand.tmp 77), type := 35, pos := "outright.go:207", after := #[{ on := 8, ground := Ground.data }, { on := 6, ground := Ground.chain }, { on := 0, ground := Ground.phase }, { on := 1, ground := Ground.phase }, { on := 2, ground := Ground.phase }, { on := 3, ground := Ground.phase }, { on := 4, ground := Ground.phase }, { on := 5, ground := Ground.phase }, { on := 6, ground := Ground.phase }, { on := 7, ground := Ground.phase }, { on := 8, ground := Ground.phase }, { on := 9, ground := Ground.textOnly Departure.lateStores }], guard := none }) (v := ?v35_10) (by kernel_rfl) (by kernel_rfl) (by kernel_rfl) (by kernel_rfl) (fun _ _ _ h => h) (Or.inl ⟨by kernel_rfl, ?h35_10⟩) hHeld ?r35_10
    case h35_10 => (intro w hSw; (try dsimp only at hSw); go_simp; try with_reducible rfl)
    try simp only [Act.put, List.setIfInBounds_toArray, List.set_cons_zero, List.set_cons_succ]
    refine wpAnyH_take (i := 11) (oi := { dst := some 10, op := Op.assign (Operand.tmp 78), type := 26, pos := "outright.go:207", after := #[{ on := 9, ground := Ground.data }, { on := 10, ground := Ground.chain }, { on := 0, ground := Ground.phase }, { on := 1, ground := Ground.phase }, { on := 2, ground := Ground.phase }, { on := 3, ground := Ground.phase }, { on := 4, ground := Ground.phase }, { on := 5, ground := Ground.phase }, { on := 6, ground := Ground.phase }, { on := 7, ground := Ground.phase }, { on := 8, ground := Ground.phase }, { on := 9, ground := Ground.phase }, { on := 10, ground := Ground.phase }], guard := none }) (v := ?v35_11) (by kernel_rfl) (by kernel_rfl) (by kernel_rfl) (by kernel_rfl) (fun _ _ _ h => h) (Or.inl ⟨by kernel_rfl, ?h35_11⟩) hHeld ?r35_11
    case h35_11 => (intro w hSw; (try dsimp only at hSw); go_simp; try with_reducible rfl)
    try simp only [Act.put, List.setIfInBounds_toArray, List.set_cons_zero, List.set_cons_succ]
    refine wpAnyH_done (by kernel_rfl) ?_ _
    go_wp2_with fail
    go_at_call 14; refine ((HTX.out) _ (below_then hb5 hHeld)).mono ?_; rintro e w8 ⟨rfl, hb8⟩
    have hbk8 := (hbk4.later hHeld).later hb8
    have q0 := hbk8.cell 0
    have q1 := hbk8.cell 1
    have q2 := hbk8.cell 2
    simp only [List.getElem?_toArray, List.getElem?_cons_zero, List.getElem?_cons_succ] at q0 q1 q2
    go_wp2_with fail
    go_at_call 27; refine ((HRIG.out) _).mono ?_; rintro e w9 ⟨rfl, hb9⟩
    go_wp2_with fail
    go_ret
    exact ⟨rfl, below_then hbw (below_then hb5 (below_then hHeld (below_then hb8 hb9)))⟩
set_option maxRecDepth 100000 in
set_option maxHeartbeats 6400000 in
theorem wrong_7 (l : List Ent) (f : Int) (A : Option Addr) (c : Nat) (w : World) (h0 : 0 ≤ f) (h1 : f < 256) (hf : f % 8 = 7) (hv : validL l = true) (hsm : smallL l = true) (hr : Reads w w.heap.size 3 A l.length (flat l)) (hle : l.length ≤ c) :
    Calls Tryd.prog 10 #[.slice A l.length c, .int .u8 f] w fun e w' => e = .returned (.bool true) ∧ Below w.heap.size w w' := by
  obtain ⟨hl, hsz⟩ := small_each hsm
  obtain ⟨i0, hi, hz0, hz1, hz2⟩ := info_parts infoEnt
  have HSM := Lib.hid hsm
  have HV := Lib.hid hv
  have HS := Lib.hid hsz
  have HR := Lib.hid hr
  clear hsm hv hsz hr
  go_enter Tryd.func10, Tryd.ntmps10
  go_wp2_with fail
  go_at_call 12; refine (awake_any _).mono ?_; rintro e w1 ⟨rfl, hb1⟩
  go_wp2_with fail
  go_at_call 17; refine (small_any l A c _ ((HR.out).later hb1) (fun e h => by have := HS.out e h; unfold maxLen; omega)).mono ?_; rw [HSM.out]; rintro e w2 ⟨rfl, rfl⟩
  go_wp2_with fail
  go_at_call 19; refine (valid_any l A c _ (fun e h => by have := (HS.out e h).1; omega) hle ((HR.out).later hb1)).mono ?_; rw [HV.out]; rintro e w3 ⟨rfl, hb3⟩
  go_wp2_with fail
  obtain ⟨W1, hW1⟩ : ∃ W1 : World, W1 = (w3.alloc (.cells #[str [122, 101, 50, 98, 114, 97], .int .u8 1, str [90, 101, 98, 114, 97]] 39)).alloc (.cells #[str [65, 110, 110], str [50], str [46]] 9) := ⟨_, rfl⟩
  have hb4 : Below w3.heap.size w3 W1 := by rw [hW1]; exact ((Below.refl _ _).alloc (Nat.le_refl _) _).alloc (by simp) _
  have hbk : Blk W1 w3.heap.size 39 #[str [122, 101, 50, 98, 114, 97], .int .u8 1, str [90, 101, 98, 114, 97]] := by rw [hW1]; exact (Blk.new w3 _ _).alloc _
  have hbt : Blk W1 (w3.heap.size + 1) 9 (([[65, 110, 110], [50], [46]] : List (List UInt8)).map str).toArray := by rw [hW1]; have h := Blk.new (w3.alloc (.cells #[str [122, 101, 50, 98, 114, 97], .int .u8 1, str [90, 101, 98, 114, 97]] 39)) 9 #[str [65, 110, 110], str [50], str [46]]; rw [World.size_alloc] at h; exact h
  have HTX : Hid (∀ W, Below W1.heap.size W1 W → Calls Tryd.prog 14 #[.slice (some ⟨w3.heap.size + 1, 0, none⟩) 3 3] W fun e w' => e = .returned (.tuple #[str [], .int .i64 2]) ∧ Below W.heap.size W w') := fun W hb => text_no [[65, 110, 110], [50], [46]] (some ⟨w3.heap.size + 1, 0, none⟩) 3 W (by kernel_rfl) (by simp) (by simp) (by simp) (blk_reads (hbt.later hb) (by simp))
  clear hbt
  have HRT : Hid (rightL ([122, 101, 50, 98, 114, 97], 1, [90, 101, 98, 114, 97]) = false) := (by kernel_rfl : rightL ([122, 101, 50, 98, 114, 97], 1, [90, 101, 98, 114, 97]) = false)
  have hbw := below_then hb1 (below_then hb3 hb4)
  have HRl := Lib.hid ((HR.out).later hbw)
  have HLW : Hid (∀ x ∈ l, x.1.length ≤ 1048576) := fun x h => by have := (HS.out x h).1; omega
  have HADD : Hid (Calls Tryd.prog 26 #[.slice A l.length c, .agg #[str [122, 101, 50, 98, 114, 97], .int .u8 1, str [90, 101, 98, 114, 97]]] W1 fun e' w' => e' = .returned (.tuple #[.slice none 0 0, .int .i64 2]) ∧ Below W1.heap.size W1 w') := add_bad l ([122, 101, 50, 98, 114, 97], 1, [90, 101, 98, 114, 97]) A c W1 (by omega) HLW.out hle HRl.out (by simp) (by rw [HRT.out, Bool.and_false])
  have HRIG : Hid (∀ W : World, Calls Tryd.prog 27 #[.agg #[str [122, 101, 50, 98, 114, 97], .int .u8 1, str [90, 101, 98, 114, 97]]] W fun e' w' => e' = .returned (.bool false) ∧ Below W.heap.size W w') := fun W => (right_any [122, 101, 50, 98, 114, 97] 1 [90, 101, 98, 114, 97] W (by simp)).mono fun e' w' h => by rw [show rightL ([122, 101, 50, 98, 114, 97], 1, [90, 101, 98, 114, 97]) = false from HRT.out] at h; exact h
  rw [← hW1]
  clear hW1
  refine (HADD.out).mono ?_; rintro e w4 ⟨rfl, hb5⟩
  have hbk4 := hbk.later hb5
  have k0 := hbk4.cell 0
  have k1 := hbk4.cell 1
  have k2 := hbk4.cell 2
  simp only [List.getElem?_toArray, List.getElem?_cons_zero, List.getElem?_cons_succ] at k0 k1 k2
  have HRW := Lib.hid ((HRl.out).later hb5)
  go_wp2_with fail
  refine wp_region_held_drew (S := fun W => Below w4.heap.size w4 W) (by kernel_rfl) (by exact (Below.refl _ _).drew) (fun hHeld => ?_)
  refine wpAnyH_take (i := 1) (oi := { dst := some 71, op := Op.move (Operand.tmp 0), type := 33, pos := "outright.go:207", after := #[], guard := none }) (v := ?v36_1) (by kernel_rfl) (by kernel_rfl) (by kernel_rfl) (by kernel_rfl) (fun _ _ _ h => h) (Or.inl ⟨by kernel_rfl, ?h36_1⟩) hHeld ?r36_1
  case h36_1 => (intro w hSw; (try dsimp only at hSw); go_simp; try with_reducible rfl)
  try simp only [Act.put, List.setIfInBounds_toArray, List.set_cons_zero, List.set_cons_succ]
  refine wpAnyH_take (i := 3) (oi := { dst := some 73, op := Op.load 39 (Operand.tmp 5), type := 39, pos := "outright.go:207", after := #[], guard := none }) (v := ?v36_3) (by kernel_rfl) (by kernel_rfl) (by kernel_rfl) (by kernel_rfl) (fun _ _ _ h => h) (Or.inl ⟨by kernel_rfl, ?h36_3⟩) hHeld ?r36_3
  case h36_3 => (intro w hSw; (try dsimp only at hSw); have m0 := (hSw.cell (p := ⟨w3.heap.size, 0, none⟩) hbk4.lt).trans k0; have m1 := (hSw.cell (p := ⟨w3.heap.size, 1, none⟩) hbk4.lt).trans k1; have m2 := (hSw.cell (p := ⟨w3.heap.size, 2, none⟩) hbk4.lt).trans k2; go_simp; try with_reducible rfl)
  try simp only [Act.put, List.setIfInBounds_toArray, List.set_cons_zero, List.set_cons_succ]
  refine wpAnyH_ready (rs := [0, 4]) (by kernel_rfl) (by simp) ?_
  refine AllReadyH.cons (i := 0) (o := { dst := some 70, op := Op.buildSlice 33 0 #[], type := 33, pos := "outright.go:207", after := #[], guard := none }) rfl (fun K hK => ?_) (AllReadyH.cons (i := 4) (o := { dst := some 74, op := Op.buildSlice 33 1 #[(0, Operand.tmp 73)], type := 33, pos := "outright.go:207", after := #[{ on := 3, ground := Ground.data }], guard := none }) rfl (fun K hK => ?_) AllReadyH.nil)
  · skip
    go_simp
    have HR0 := (own_empty w4 w4.heap.size 39 (Nat.le_refl _)).drew
    have hKeep := Below.alloc hHeld hHeld.size (.cells #[] 39)
    refine hK.out _ _ (by exact hKeep) (fun hHeld => ?_)
    clear hK K
    try simp only [Act.put, List.setIfInBounds_toArray, List.set_cons_zero, List.set_cons_succ]
    refine wpAnyH_ready (rs := [2, 4]) (by kernel_rfl) (by simp) ?_
    refine AllReadyH.cons (i := 2) (o := { dst := some 72, op := Op.call { callee := Callee.builtin Builtin.append, args := #[Operand.tmp 70, Operand.tmp 71], argTypes := #[33, 33] }, type := 33, pos := "outright.go:207", after := #[{ on := 0, ground := Ground.data }, { on := 1, ground := Ground.data }], guard := none }) rfl (fun K hK => ?_) (AllReadyH.cons (i := 4) (o := { dst := some 74, op := Op.buildSlice 33 1 #[(0, Operand.tmp 73)], type := 33, pos := "outright.go:207", after := #[{ on := 3, ground := Ground.data }], guard := none }) rfl (fun K hK => ?_) AllReadyH.nil)
    · skip
      refine step_append_any _ (by rfl) _ _ _ (by rfl) w4.heap.size 39 i0 _ 3 40 Tryd.underlying33 hi hz0 hz1 hz2 rfl (by decide) _ 0 [] (by rfl) HR0 _ A l.length c (flat l) (by rfl) (HRW.out.below hHeld) (flat_one l) (by unfold maxLen; omega) (by omega) hHeld.size ?_
      intro v5 w5 hown5 hg5 hat5
      have hKeep : Below w4.heap.size w4 w5 := hHeld.grown hg5 hHeld.size (own_ge HR0)
      refine hK.out _ _ (by exact hKeep) (fun hHeld => ?_)
      clear hK K
      try simp only [Act.put, List.setIfInBounds_toArray, List.set_cons_zero, List.set_cons_succ]
      refine wpAnyH_ready (rs := [4]) (by kernel_rfl) (by simp) ?_
      refine AllReadyH.cons (i := 4) (o := { dst := some 74, op := Op.buildSlice 33 1 #[(0, Operand.tmp 73)], type := 33, pos := "outright.go:207", after := #[{ on := 3, ground := Ground.data }], guard := none }) rfl (fun K hK => ?_) AllReadyH.nil
      go_simp
      have HB4 := Blk.new w5 39 #[str [122, 101, 50, 98, 114, 97], .int .u8 1, str [90, 101, 98, 114, 97]]
      have HO := hown5.alloc (.cells #[str [122, 101, 50, 98, 114, 97], .int .u8 1, str [90, 101, 98, 114, 97]] 39)
      have hKeep := Below.alloc hHeld hHeld.size (.cells #[str [122, 101, 50, 98, 114, 97], .int .u8 1, str [90, 101, 98, 114, 97]] 39)
      refine hK.out _ _ (by exact hKeep) (fun hHeld => ?_)
      clear hK K
      try simp only [Act.put, List.setIfInBounds_toArray, List.set_cons_zero, List.set_cons_succ]
      refine wpAnyH_ready (rs := [5]) (by kernel_rfl) (by simp) ?_
      refine AllReadyH.cons (i := 5) (o := { dst := some 75, op := Op.call { callee := Callee.builtin Builtin.append, args := #[Operand.tmp 72, Operand.tmp 74], argTypes := #[33, 33] }, type := 33, pos := "outright.go:207", after := #[{ on := 2, ground := Ground.data }, { on := 4, ground := Ground.data }, { on := 2, ground := Ground.chain }], guard := none }) rfl (fun K hK => ?_) AllReadyH.nil
      refine step_append_any _ (by rfl) _ _ _ (by rfl) w4.heap.size 39 i0 _ 3 40 Tryd.underlying33 hi hz0 hz1 hz2 rfl (by decide) v5 (0 + l.length) ([] ++ flat l) (by rfl) HO _ (some ⟨w5.heap.size, 0, none⟩) 1 1 [str [122, 101, 50, 98, 114, 97], .int .u8 1, str [90, 101, 98, 114, 97]] (by rfl) (blk_reads HB4 rfl) (by simp [Value.oneCell']) (by unfold maxLen; omega) (by omega) hHeld.size ?_
      intro v6 w6 hown6 hg6 hat6
      obtain ⟨A6, c6, rfl, hc6⟩ := own_form hown6
      have HRD6 := Reads.of_own hown6
      rw [Nat.zero_add, List.nil_append] at HRD6
      have hKeep : Below w4.heap.size w4 w6 := hHeld.grown hg6 hHeld.size (own_ge HO)
      refine hK.out _ _ (by exact hKeep) (fun hHeld => ?_)
      clear hK K
      try simp only [Act.put, List.setIfInBounds_toArray, List.set_cons_zero, List.set_cons_succ]
      refine wpAnyH_ready (rs := [6]) (by kernel_rfl) (by simp) ?_
      refine AllReadyH.cons (i := 6) (o := { dst := some 76, op := Op.call { callee := Callee.value (Operand.func 18), args := #[Operand.tmp 75, Operand.const (Value.string { data := #[122, 101, 98, 114, 97] })], argTypes := #[33, 9] }, type := 36, pos := "outright.go:207", after := #[{ on := 5, ground := Ground.data }, { on := 5, ground := Ground.chain }], guard := none }) rfl (fun K hK => ?_) AllReadyH.nil
      go_simp
      refine (look_bad l ([122, 101, 50, 98, 114, 97], 1, [90, 101, 98, 114, 97]) [122, 101, 98, 114, 97] A6 (l.length + 1) c6 w6 rfl HRT.out HLW.out (by simp) (by omega) _ rfl HRD6).mono ?_
      rintro e6 w7 ⟨A7, c7, rfl, hb7⟩
      have hKeep : Below w4.heap.size w4 w7 := hHeld.trans (hb7.mono hHeld.size)
      go_wp2_with fail
      refine hK.out _ _ (by exact hKeep) (fun hHeld => ?_)
      clear hK K
      try simp only [Act.put, List.setIfInBounds_toArray, List.set_cons_zero, List.set_cons_succ]
      refine wpAnyH_take (i := 7) (oi := { dst := some 69, op := Op.move (Operand.tmp 76), type := 36, pos := "outright.go:207", after := #[{ on := 6, ground := Ground.data }], guard := none }) (v := ?v38_7) (by kernel_rfl) (by kernel_rfl) (by kernel_rfl) (by kernel_rfl) (fun _ _ _ h => h) (Or.inl ⟨by kernel_rfl, ?h38_7⟩) hHeld ?r38_7
      case h38_7 => (intro w hSw; (try dsimp only at hSw); go_simp; try with_reducible rfl)
      try simp only [Act.put, List.setIfInBounds_toArray, List.set_cons_zero, List.set_cons_succ]
      refine wpAnyH_take (i := 8) (oi := { dst := some 77, op := Op.extract (Operand.tmp 69) 0, type := 35, pos := "outright.go:207", after := #[{ on := 7, ground := Ground.data }], guard := none }) (v := ?v38_8) (by kernel_rfl) (by kernel_rfl) (by kernel_rfl) (by kernel_rfl) (fun _ _ _ h => h) (Or.inl ⟨by kernel_rfl, ?h38_8⟩) hHeld ?r38_8
      case h38_8 => (intro w hSw; (try dsimp only at hSw); go_simp; try with_reducible rfl)
      try simp only [Act.put, List.setIfInBounds_toArray, List.set_cons_zero, List.set_cons_succ]
      refine wpAnyH_take (i := 9) (oi := { dst := some 78, op := Op.extract (Operand.tmp 69) 1, type := 26, pos := "outright.go:207", after := #[{ on := 7, ground := Ground.data }, { on := 10, ground := Ground.gcOnly Departure.lateStores }], guard := none }) (v := ?v38_9) (by kernel_rfl) (by kernel_rfl) (by kernel_rfl) (by kernel_rfl) (fun _ _ _ h => h) (Or.inl ⟨by kernel_rfl, ?h38_9⟩) hHeld ?r38_9
      case h38_9 => (intro w hSw; (try dsimp only at hSw); go_simp; try with_reducible rfl)
      try simp only [Act.put, List.setIfInBounds_toArray, List.set_cons_zero, List.set_cons_succ]
      refine wpAnyH_take (i := 10) (oi := { dst := some 9, op := Op.assign (Operand.tmp 77), type := 35, pos := "outright.go:207", after := #[{ on := 8, ground := Ground.data }, { on := 6, ground := Ground.chain }, { on := 0, ground := Ground.phase }, { on := 1, ground := Ground.phase }, { on := 2, ground := Ground.phase }, { on := 3, ground := Ground.phase }, { on := 4, ground := Ground.phase }, { on := 5, ground := Ground.phase }, { on := 6, ground := Ground.phase }, { on := 7, ground := Ground.phase }, { on := 8, ground := Ground.phase }, { on := 9, ground := Ground.textOnly Departure.lateStores }], guard := none }) (v := ?v38_10) (by kernel_rfl) (by kernel_rfl) (by kernel_rfl) (by kernel_rfl) (fun _ _ _ h => h) (Or.inl ⟨by kernel_rfl, ?h38_10⟩) hHeld ?r38_10
      case h38_10 => (intro w hSw; (try dsimp only at hSw); go_simp; try with_reducible rfl)
      try simp only [Act.put, List.setIfInBounds_toArray, List.set_cons_zero, List.set_cons_succ]
      refine wpAnyH_take (i := 11) (oi := { dst := some 10, op := Op.assign (Operand.tmp 78), type := 26, pos := "outright.go:207", after := #[{ on := 9, ground := Ground.data }, { on := 10, ground := Ground.chain }, { on := 0, ground := Ground.phase }, { on := 1, ground := Ground.phase }, { on := 2, ground := Ground.phase }, { on := 3, ground := Ground.phase }, { on := 4, ground := Ground.phase }, { on := 5, ground := Ground.phase }, { on := 6, ground := Ground.phase }, { on := 7, ground := Ground.phase }, { on := 8, ground := Ground.phase }, { on := 9, ground := Ground.phase }, { on := 10, ground := Ground.phase }], guard := none }) (v := ?v38_11) (by kernel_rfl) (by kernel_rfl) (by kernel_rfl) (by kernel_rfl) (fun _ _ _ h => h) (Or.inl ⟨by kernel_rfl, ?h38_11⟩) hHeld ?r38_11
      case h38_11 => (intro w hSw; (try dsimp only at hSw); go_simp; try with_reducible rfl)
      try simp only [Act.put, List.setIfInBounds_toArray, List.set_cons_zero, List.set_cons_succ]
      refine wpAnyH_done (by kernel_rfl) ?_ _
      go_wp2_with fail
      go_at_call 14; refine ((HTX.out) _ (below_then hb5 hHeld)).mono ?_; rintro e w8 ⟨rfl, hb8⟩
      have hbk8 := (hbk4.later hHeld).later hb8
      have q0 := hbk8.cell 0
      have q1 := hbk8.cell 1
      have q2 := hbk8.cell 2
      simp only [List.getElem?_toArray, List.getElem?_cons_zero, List.getElem?_cons_succ] at q0 q1 q2
      go_wp2_with fail
      go_at_call 27; refine ((HRIG.out) _).mono ?_; rintro e w9 ⟨rfl, hb9⟩
      go_wp2_with fail
      go_ret
      exact ⟨rfl, below_then hbw (below_then hb5 (below_then hHeld (below_then hb8 hb9)))⟩
    · skip
      go_simp
      have HB4 : Blk ((w4.alloc (.cells #[] 39)).alloc (.cells #[str [122, 101, 50, 98, 114, 97], .int .u8 1, str [90, 101, 98, 114, 97]] 39)).drew (w4.heap.size + 1) 39 #[str [122, 101, 50, 98, 114, 97], .int .u8 1, str [90, 101, 98, 114, 97]] := (by have h := Blk.new (w4.alloc (.cells #[] 39)) 39 #[str [122, 101, 50, 98, 114, 97], .int .u8 1, str [90, 101, 98, 114, 97]]; rw [World.size_alloc] at h; exact h.drew)
      have HR1 := (HR0.alloc (.cells #[str [122, 101, 50, 98, 114, 97], .int .u8 1, str [90, 101, 98, 114, 97]] 39))
      have hKeep := Below.alloc hHeld hHeld.size (.cells #[str [122, 101, 50, 98, 114, 97], .int .u8 1, str [90, 101, 98, 114, 97]] 39)
      refine hK.out _ _ (by exact hKeep) (fun hHeld => ?_)
      clear hK K
      try simp only [Act.put, List.setIfInBounds_toArray, List.set_cons_zero, List.set_cons_succ]
      refine wpAnyH_ready (rs := [2]) (by kernel_rfl) (by simp) ?_
      refine AllReadyH.cons (i := 2) (o := { dst := some 72, op := Op.call { callee := Callee.builtin Builtin.append, args := #[Operand.tmp 70, Operand.tmp 71], argTypes := #[33, 33] }, type := 33, pos := "outright.go:207", after := #[{ on := 0, ground := Ground.data }, { on := 1, ground := Ground.data }], guard := none }) rfl (fun K hK => ?_) AllReadyH.nil
      refine step_append_any _ (by rfl) _ _ _ (by rfl) w4.heap.size 39 i0 _ 3 40 Tryd.underlying33 hi hz0 hz1 hz2 rfl (by decide) _ 0 [] (by rfl) HR1 _ A l.length c (flat l) (by rfl) (HRW.out.below hHeld) (flat_one l) (by unfold maxLen; omega) (by omega) hHeld.size ?_
      intro v5 w5 hown5 hg5 hat5
      have hKeep : Below w4.heap.size w4 w5 := hHeld.grown hg5 hHeld.size (own_ge HR1)
      have HB5 := HB4.grown hg5 (by simp [Value.ownBlock])
      refine hK.out _ _ (by exact hKeep) (fun hHeld => ?_)
      clear hK K
      try simp only [Act.put, List.setIfInBounds_toArray, List.set_cons_zero, List.set_cons_succ]
      refine wpAnyH_ready (rs := [5]) (by kernel_rfl) (by simp) ?_
      refine AllReadyH.cons (i := 5) (o := { dst := some 75, op := Op.call { callee := Callee.builtin Builtin.append, args := #[Operand.tmp 72, Operand.tmp 74], argTypes := #[33, 33] }, type := 33, pos := "outright.go:207", after := #[{ on := 2, ground := Ground.data }, { on := 4, ground := Ground.data }, { on := 2, ground := Ground.chain }], guard := none }) rfl (fun K hK => ?_) AllReadyH.nil
      refine step_append_any _ (by rfl) _ _ _ (by rfl) w4.heap.size 39 i0 _ 3 40 Tryd.underlying33 hi hz0 hz1 hz2 rfl (by decide) v5 (0 + l.length) ([] ++ flat l) (by rfl) hown5 _ (some ⟨(w4.heap.size + 1), 0, none⟩) 1 1 [str [122, 101, 50, 98, 114, 97], .int .u8 1, str [90, 101, 98, 114, 97]] (by rfl) (blk_reads HB5 rfl) (by simp [Value.oneCell']) (by unfold maxLen; omega) (by omega) hHeld.size ?_
      intro v6 w6 hown6 hg6 hat6
      obtain ⟨A6, c6, rfl, hc6⟩ := own_form hown6
      have HRD6 := Reads.of_own hown6
      rw [Nat.zero_add, List.nil_append] at HRD6
      have hKeep : Below w4.heap.size w4 w6 := hHeld.grown hg6 hHeld.size (own_ge hown5)
      refine hK.out _ _ (by exact hKeep) (fun hHeld => ?_)
      clear hK K
      try simp only [Act.put, List.setIfInBounds_toArray, List.set_cons_zero, List.set_cons_succ]
      refine wpAnyH_ready (rs := [6]) (by kernel_rfl) (by simp) ?_
      refine AllReadyH.cons (i := 6) (o := { dst := some 76, op := Op.call { callee := Callee.value (Operand.func 18), args := #[Operand.tmp 75, Operand.const (Value.string { data := #[122, 101, 98, 114, 97] })], argTypes := #[33, 9] }, type := 36, pos := "outright.go:207", after := #[{ on := 5, ground := Ground.data }, { on := 5, ground := Ground.chain }], guard := none }) rfl (fun K hK => ?_) AllReadyH.nil
      go_simp
      refine (look_bad l ([122, 101, 50, 98, 114, 97], 1, [90, 101, 98, 114, 97]) [122, 101, 98, 114, 97] A6 (l.length + 1) c6 w6 rfl HRT.out HLW.out (by simp) (by omega) _ rfl HRD6).mono ?_
      rintro e6 w7 ⟨A7, c7, rfl, hb7⟩
      have hKeep : Below w4.heap.size w4 w7 := hHeld.trans (hb7.mono hHeld.size)
      go_wp2_with fail
      refine hK.out _ _ (by exact hKeep) (fun hHeld => ?_)
      clear hK K
      try simp only [Act.put, List.setIfInBounds_toArray, List.set_cons_zero, List.set_cons_succ]
      refine wpAnyH_take (i := 7) (oi := { dst := some 69, op := Op.move (Operand.tmp 76), type := 36, pos := "outright.go:207", after := #[{ on := 6, ground := Ground.data }], guard := none }) (v := ?v39_7) (by kernel_rfl) (by kernel_rfl) (by kernel_rfl) (by kernel_rfl) (fun _ _ _ h => h) (Or.inl ⟨by kernel_rfl, ?h39_7⟩) hHeld ?r39_7
      case h39_7 => (intro w hSw; (try dsimp only at hSw); go_simp; try with_reducible rfl)
      try simp only [Act.put, List.setIfInBounds_toArray, List.set_cons_zero, List.set_cons_succ]
      refine wpAnyH_take (i := 8) (oi := { dst := some 77, op := Op.extract (Operand.tmp 69) 0, type := 35, pos := "outright.go:207", after := #[{ on := 7, ground := Ground.data }], guard := none }) (v := ?v39_8) (by kernel_rfl) (by kernel_rfl) (by kernel_rfl) (by kernel_rfl) (fun _ _ _ h => h) (Or.inl ⟨by kernel_rfl, ?h39_8⟩) hHeld ?r39_8
      case h39_8 => (intro w hSw; (try dsimp only at hSw); go_simp; try with_reducible rfl)
      try simp only [Act.put, List.setIfInBounds_toArray, List.set_cons_zero, List.set_cons_succ]
      refine wpAnyH_take (i := 9) (oi := { dst := some 78, op := Op.extract (Operand.tmp 69) 1, type := 26, pos := "outright.go:207", after := #[{ on := 7, ground := Ground.data }, { on := 10, ground := Ground.gcOnly Departure.lateStores }], guard := none }) (v := ?v39_9) (by kernel_rfl) (by kernel_rfl) (by kernel_rfl) (by kernel_rfl) (fun _ _ _ h => h) (Or.inl ⟨by kernel_rfl, ?h39_9⟩) hHeld ?r39_9
      case h39_9 => (intro w hSw; (try dsimp only at hSw); go_simp; try with_reducible rfl)
      try simp only [Act.put, List.setIfInBounds_toArray, List.set_cons_zero, List.set_cons_succ]
      refine wpAnyH_take (i := 10) (oi := { dst := some 9, op := Op.assign (Operand.tmp 77), type := 35, pos := "outright.go:207", after := #[{ on := 8, ground := Ground.data }, { on := 6, ground := Ground.chain }, { on := 0, ground := Ground.phase }, { on := 1, ground := Ground.phase }, { on := 2, ground := Ground.phase }, { on := 3, ground := Ground.phase }, { on := 4, ground := Ground.phase }, { on := 5, ground := Ground.phase }, { on := 6, ground := Ground.phase }, { on := 7, ground := Ground.phase }, { on := 8, ground := Ground.phase }, { on := 9, ground := Ground.textOnly Departure.lateStores }], guard := none }) (v := ?v39_10) (by kernel_rfl) (by kernel_rfl) (by kernel_rfl) (by kernel_rfl) (fun _ _ _ h => h) (Or.inl ⟨by kernel_rfl, ?h39_10⟩) hHeld ?r39_10
      case h39_10 => (intro w hSw; (try dsimp only at hSw); go_simp; try with_reducible rfl)
      try simp only [Act.put, List.setIfInBounds_toArray, List.set_cons_zero, List.set_cons_succ]
      refine wpAnyH_take (i := 11) (oi := { dst := some 10, op := Op.assign (Operand.tmp 78), type := 26, pos := "outright.go:207", after := #[{ on := 9, ground := Ground.data }, { on := 10, ground := Ground.chain }, { on := 0, ground := Ground.phase }, { on := 1, ground := Ground.phase }, { on := 2, ground := Ground.phase }, { on := 3, ground := Ground.phase }, { on := 4, ground := Ground.phase }, { on := 5, ground := Ground.phase }, { on := 6, ground := Ground.phase }, { on := 7, ground := Ground.phase }, { on := 8, ground := Ground.phase }, { on := 9, ground := Ground.phase }, { on := 10, ground := Ground.phase }], guard := none }) (v := ?v39_11) (by kernel_rfl) (by kernel_rfl) (by kernel_rfl) (by kernel_rfl) (fun _ _ _ h => h) (Or.inl ⟨by kernel_rfl, ?h39_11⟩) hHeld ?r39_11
      case h39_11 => (intro w hSw; (try dsimp only at hSw); go_simp; try with_reducible rfl)
      try simp only [Act.put, List.setIfInBounds_toArray, List.set_cons_zero, List.set_cons_succ]
      refine wpAnyH_done (by kernel_rfl) ?_ _
      go_wp2_with fail
      go_at_call 14; refine ((HTX.out) _ (below_then hb5 hHeld)).mono ?_; rintro e w8 ⟨rfl, hb8⟩
      have hbk8 := (hbk4.later hHeld).later hb8
      have q0 := hbk8.cell 0
      have q1 := hbk8.cell 1
      have q2 := hbk8.cell 2
      simp only [List.getElem?_toArray, List.getElem?_cons_zero, List.getElem?_cons_succ] at q0 q1 q2
      go_wp2_with fail
      go_at_call 27; refine ((HRIG.out) _).mono ?_; rintro e w9 ⟨rfl, hb9⟩
      go_wp2_with fail
      go_ret
      exact ⟨rfl, below_then hbw (below_then hb5 (below_then hHeld (below_then hb8 hb9)))⟩
  · skip
    go_simp
    have HB4 := (Blk.new w4 39 #[str [122, 101, 50, 98, 114, 97], .int .u8 1, str [90, 101, 98, 114, 97]]).drew
    have hKeep := Below.alloc hHeld hHeld.size (.cells #[str [122, 101, 50, 98, 114, 97], .int .u8 1, str [90, 101, 98, 114, 97]] 39)
    refine hK.out _ _ (by exact hKeep) (fun hHeld => ?_)
    clear hK K
    try simp only [Act.put, List.setIfInBounds_toArray, List.set_cons_zero, List.set_cons_succ]
    refine wpAnyH_ready (rs := [0]) (by kernel_rfl) (by simp) ?_
    refine AllReadyH.cons (i := 0) (o := { dst := some 70, op := Op.buildSlice 33 0 #[], type := 33, pos := "outright.go:207", after := #[], guard := none }) rfl (fun K hK => ?_) AllReadyH.nil
    go_simp
    have HR1 : ((w4.alloc (.cells #[str [122, 101, 50, 98, 114, 97], .int .u8 1, str [90, 101, 98, 114, 97]] 39)).alloc (.cells #[] 39)).drew.ownsRow w4.heap.size 39 3 (.slice (some ⟨w4.heap.size + 1, 0, none⟩) 0 0) 0 [] := (by have h := (own_empty (w4.alloc (.cells #[str [122, 101, 50, 98, 114, 97], .int .u8 1, str [90, 101, 98, 114, 97]] 39)) w4.heap.size 39 (by simp)).drew; rw [World.size_alloc] at h; exact h)
    have HB5 := HB4.alloc (.cells #[] 39)
    have hKeep := Below.alloc hHeld hHeld.size (.cells #[] 39)
    refine hK.out _ _ (by exact hKeep) (fun hHeld => ?_)
    clear hK K
    try simp only [Act.put, List.setIfInBounds_toArray, List.set_cons_zero, List.set_cons_succ]
    refine wpAnyH_ready (rs := [2]) (by kernel_rfl) (by simp) ?_
    refine AllReadyH.cons (i := 2) (o := { dst := some 72, op := Op.call { callee := Callee.builtin Builtin.append, args := #[Operand.tmp 70, Operand.tmp 71], argTypes := #[33, 33] }, type := 33, pos := "outright.go:207", after := #[{ on := 0, ground := Ground.data }, { on := 1, ground := Ground.data }], guard := none }) rfl (fun K hK => ?_) AllReadyH.nil
    refine step_append_any _ (by rfl) _ _ _ (by rfl) w4.heap.size 39 i0 _ 3 40 Tryd.underlying33 hi hz0 hz1 hz2 rfl (by decide) _ 0 [] (by rfl) HR1 _ A l.length c (flat l) (by rfl) (HRW.out.below hHeld) (flat_one l) (by unfold maxLen; omega) (by omega) hHeld.size ?_
    intro v5 w5 hown5 hg5 hat5
    have hKeep : Below w4.heap.size w4 w5 := hHeld.grown hg5 hHeld.size (own_ge HR1)
    have HB6 := HB5.grown hg5 (by simp [Value.ownBlock])
    refine hK.out _ _ (by exact hKeep) (fun hHeld => ?_)
    clear hK K
    try simp only [Act.put, List.setIfInBounds_toArray, List.set_cons_zero, List.set_cons_succ]
    refine wpAnyH_ready (rs := [5]) (by kernel_rfl) (by simp) ?_
    refine AllReadyH.cons (i := 5) (o := { dst := some 75, op := Op.call { callee := Callee.builtin Builtin.append, args := #[Operand.tmp 72, Operand.tmp 74], argTypes := #[33, 33] }, type := 33, pos := "outright.go:207", after := #[{ on := 2, ground := Ground.data }, { on := 4, ground := Ground.data }, { on := 2, ground := Ground.chain }], guard := none }) rfl (fun K hK => ?_) AllReadyH.nil
    refine step_append_any _ (by rfl) _ _ _ (by rfl) w4.heap.size 39 i0 _ 3 40 Tryd.underlying33 hi hz0 hz1 hz2 rfl (by decide) v5 (0 + l.length) ([] ++ flat l) (by rfl) hown5 _ (some ⟨w4.heap.size, 0, none⟩) 1 1 [str [122, 101, 50, 98, 114, 97], .int .u8 1, str [90, 101, 98, 114, 97]] (by rfl) (blk_reads HB6 rfl) (by simp [Value.oneCell']) (by unfold maxLen; omega) (by omega) hHeld.size ?_
    intro v6 w6 hown6 hg6 hat6
    obtain ⟨A6, c6, rfl, hc6⟩ := own_form hown6
    have HRD6 := Reads.of_own hown6
    rw [Nat.zero_add, List.nil_append] at HRD6
    have hKeep : Below w4.heap.size w4 w6 := hHeld.grown hg6 hHeld.size (own_ge hown5)
    refine hK.out _ _ (by exact hKeep) (fun hHeld => ?_)
    clear hK K
    try simp only [Act.put, List.setIfInBounds_toArray, List.set_cons_zero, List.set_cons_succ]
    refine wpAnyH_ready (rs := [6]) (by kernel_rfl) (by simp) ?_
    refine AllReadyH.cons (i := 6) (o := { dst := some 76, op := Op.call { callee := Callee.value (Operand.func 18), args := #[Operand.tmp 75, Operand.const (Value.string { data := #[122, 101, 98, 114, 97] })], argTypes := #[33, 9] }, type := 36, pos := "outright.go:207", after := #[{ on := 5, ground := Ground.data }, { on := 5, ground := Ground.chain }], guard := none }) rfl (fun K hK => ?_) AllReadyH.nil
    go_simp
    refine (look_bad l ([122, 101, 50, 98, 114, 97], 1, [90, 101, 98, 114, 97]) [122, 101, 98, 114, 97] A6 (l.length + 1) c6 w6 rfl HRT.out HLW.out (by simp) (by omega) _ rfl HRD6).mono ?_
    rintro e6 w7 ⟨A7, c7, rfl, hb7⟩
    have hKeep : Below w4.heap.size w4 w7 := hHeld.trans (hb7.mono hHeld.size)
    go_wp2_with fail
    refine hK.out _ _ (by exact hKeep) (fun hHeld => ?_)
    clear hK K
    try simp only [Act.put, List.setIfInBounds_toArray, List.set_cons_zero, List.set_cons_succ]
    refine wpAnyH_take (i := 7) (oi := { dst := some 69, op := Op.move (Operand.tmp 76), type := 36, pos := "outright.go:207", after := #[{ on := 6, ground := Ground.data }], guard := none }) (v := ?v40_7) (by kernel_rfl) (by kernel_rfl) (by kernel_rfl) (by kernel_rfl) (fun _ _ _ h => h) (Or.inl ⟨by kernel_rfl, ?h40_7⟩) hHeld ?r40_7
    case h40_7 => (intro w hSw; (try dsimp only at hSw); go_simp; try with_reducible rfl)
    try simp only [Act.put, List.setIfInBounds_toArray, List.set_cons_zero, List.set_cons_succ]
    refine wpAnyH_take (i := 8) (oi := { dst := some 77, op := Op.extract (Operand.tmp 69) 0, type := 35, pos := "outright.go:207", after := #[{ on := 7, ground := Ground.data }], guard := none }) (v := ?v40_8) (by kernel_rfl) (by kernel_rfl) (by kernel_rfl) (by kernel_rfl) (fun _ _ _ h => h) (Or.inl ⟨by kernel_rfl, ?h40_8⟩) hHeld ?r40_8
    case h40_8 => (intro w hSw; (try dsimp only at hSw); go_simp; try with_reducible rfl)
    try simp only [Act.put, List.setIfInBounds_toArray, List.set_cons_zero, List.set_cons_succ]
    refine wpAnyH_take (i := 9) (oi := { dst := some 78, op := Op.extract (Operand.tmp 69) 1, type := 26, pos := "outright.go:207", after := #[{ on := 7, ground := Ground.data }, { on := 10, ground := Ground.gcOnly Departure.lateStores }], guard := none }) (v := ?v40_9) (by kernel_rfl) (by kernel_rfl) (by kernel_rfl) (by kernel_rfl) (fun _ _ _ h => h) (Or.inl ⟨by kernel_rfl, ?h40_9⟩) hHeld ?r40_9
    case h40_9 => (intro w hSw; (try dsimp only at hSw); go_simp; try with_reducible rfl)
    try simp only [Act.put, List.setIfInBounds_toArray, List.set_cons_zero, List.set_cons_succ]
    refine wpAnyH_take (i := 10) (oi := { dst := some 9, op := Op.assign (Operand.tmp 77), type := 35, pos := "outright.go:207", after := #[{ on := 8, ground := Ground.data }, { on := 6, ground := Ground.chain }, { on := 0, ground := Ground.phase }, { on := 1, ground := Ground.phase }, { on := 2, ground := Ground.phase }, { on := 3, ground := Ground.phase }, { on := 4, ground := Ground.phase }, { on := 5, ground := Ground.phase }, { on := 6, ground := Ground.phase }, { on := 7, ground := Ground.phase }, { on := 8, ground := Ground.phase }, { on := 9, ground := Ground.textOnly Departure.lateStores }], guard := none }) (v := ?v40_10) (by kernel_rfl) (by kernel_rfl) (by kernel_rfl) (by kernel_rfl) (fun _ _ _ h => h) (Or.inl ⟨by kernel_rfl, ?h40_10⟩) hHeld ?r40_10
    case h40_10 => (intro w hSw; (try dsimp only at hSw); go_simp; try with_reducible rfl)
    try simp only [Act.put, List.setIfInBounds_toArray, List.set_cons_zero, List.set_cons_succ]
    refine wpAnyH_take (i := 11) (oi := { dst := some 10, op := Op.assign (Operand.tmp 78), type := 26, pos := "outright.go:207", after := #[{ on := 9, ground := Ground.data }, { on := 10, ground := Ground.chain }, { on := 0, ground := Ground.phase }, { on := 1, ground := Ground.phase }, { on := 2, ground := Ground.phase }, { on := 3, ground := Ground.phase }, { on := 4, ground := Ground.phase }, { on := 5, ground := Ground.phase }, { on := 6, ground := Ground.phase }, { on := 7, ground := Ground.phase }, { on := 8, ground := Ground.phase }, { on := 9, ground := Ground.phase }, { on := 10, ground := Ground.phase }], guard := none }) (v := ?v40_11) (by kernel_rfl) (by kernel_rfl) (by kernel_rfl) (by kernel_rfl) (fun _ _ _ h => h) (Or.inl ⟨by kernel_rfl, ?h40_11⟩) hHeld ?r40_11
    case h40_11 => (intro w hSw; (try dsimp only at hSw); go_simp; try with_reducible rfl)
    try simp only [Act.put, List.setIfInBounds_toArray, List.set_cons_zero, List.set_cons_succ]
    refine wpAnyH_done (by kernel_rfl) ?_ _
    go_wp2_with fail
    go_at_call 14; refine ((HTX.out) _ (below_then hb5 hHeld)).mono ?_; rintro e w8 ⟨rfl, hb8⟩
    have hbk8 := (hbk4.later hHeld).later hb8
    have q0 := hbk8.cell 0
    have q1 := hbk8.cell 1
    have q2 := hbk8.cell 2
    simp only [List.getElem?_toArray, List.getElem?_cons_zero, List.getElem?_cons_succ] at q0 q1 q2
    go_wp2_with fail
    go_at_call 27; refine ((HRIG.out) _).mono ?_; rintro e w9 ⟨rfl, hb9⟩
    go_wp2_with fail
    go_ret
    exact ⟨rfl, below_then hbw (below_then hb5 (below_then hHeld (below_then hb8 hb9)))⟩
set_option maxRecDepth 100000 in
theorem wordsWrong_core (l : List Ent) (f : Int) (A : Option Addr) (c : Nat) (w : World) (h0 : 0 ≤ f) (h1 : f < 256) (hr : Reads w w.heap.size 3 A l.length (flat l)) (hle : l.length ≤ c) (hs : ∀ e ∈ l, e.1.length ≤ maxLen ∧ e.2.2.length ≤ maxLen) :
    Calls Tryd.prog 10 #[.slice A l.length c, .int .u8 f] w fun e w' => e = .returned (.bool true) ∧ Below w.heap.size w w' := by
  cases hsm : smallL l
  · have HSM := Lib.hid hsm
    have HR := Lib.hid hr
    have HS := Lib.hid hs
    clear hsm hr hs
    go_enter Tryd.func10, Tryd.ntmps10
    go_wp2_with fail
    go_at_call 12; refine (awake_any _).mono ?_; rintro e w1 ⟨rfl, hb1⟩
    go_wp2_with fail
    go_at_call 17; refine (small_any l A c _ ((HR.out).later hb1) HS.out).mono ?_; rw [HSM.out]; rintro e w2 ⟨rfl, rfl⟩
    go_wp2_with fail
    go_ret
    exact ⟨rfl, hb1⟩
  · cases hv : validL l
    · obtain ⟨hl, hsz⟩ := small_each hsm
      have HSM := Lib.hid hsm
      have HV := Lib.hid hv
      have HR := Lib.hid hr
      have HS := Lib.hid hs
      have HZ := Lib.hid hsz
      clear hsm hr hs hv hsz
      go_enter Tryd.func10, Tryd.ntmps10
      go_wp2_with fail
      go_at_call 12; refine (awake_any _).mono ?_; rintro e w1 ⟨rfl, hb1⟩
      go_wp2_with fail
      go_at_call 17; refine (small_any l A c _ ((HR.out).later hb1) HS.out).mono ?_; rw [HSM.out]; rintro e w2 ⟨rfl, rfl⟩
      go_wp2_with fail
      go_at_call 19; refine (valid_any l A c _ (fun e h => by have := (HZ.out e h).1; omega) hle ((HR.out).later hb1)).mono ?_; rw [HV.out]; rintro e w3 ⟨rfl, hb3⟩
      go_wp2_with fail
      go_ret
      exact ⟨rfl, below_then hb1 hb3⟩
    · have hf : f % 8 = 0 ∨ f % 8 = 1 ∨ f % 8 = 2 ∨ f % 8 = 3 ∨ f % 8 = 4 ∨ f % 8 = 5 ∨ f % 8 = 6 ∨ f % 8 = 7 := by omega
      rcases hf with h | h | h | h | h | h | h | h
      · exact wrong_0 l f A c w h0 h1 h hv hsm hr hle
      · exact wrong_1 l f A c w h0 h1 h hv hsm hr hle
      · exact wrong_2 l f A c w h0 h1 h hv hsm hr hle
      · exact wrong_3 l f A c w h0 h1 h hv hsm hr hle
      · exact wrong_4 l f A c w h0 h1 h hv hsm hr hle
      · exact wrong_5 l f A c w h0 h1 h hv hsm hr hle
      · exact wrong_6 l f A c w h0 h1 h hv hsm hr hle
      · exact wrong_7 l f A c w h0 h1 h hv hsm hr hle
end Go.Proofs.YtbbgieopcmjoeaaDoor
