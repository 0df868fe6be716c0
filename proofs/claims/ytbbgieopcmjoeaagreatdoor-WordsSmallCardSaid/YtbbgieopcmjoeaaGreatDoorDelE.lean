/- slices.Delete over entries: one entry taken out of a row of the call's own. -/
import Derived.Test.YtbbgieopcmjoeaaGreatDoorInsE
namespace Go.Proofs.YtbbgieopcmjoeaaGreatDoor
open Go.RowKit
theorem zeroEnt (w : World) : (zeroValue 24).run Tryz.prog w = .ok (.agg #[.string ⟨#[]⟩, .int .u8 0, .string ⟨#[]⟩]) w := by kernel_rfl
set_option maxRecDepth 100000 in
set_option maxHeartbeats 1600000 in
theorem delE_row (l : List Ent) (m i g c B : Nat) (cur : List Value) (w : World) (hm : l.length = m + 1) (hi : i ≤ m) (hl : l.length ≤ 1048576) (hlc : l.length ≤ c) (hc63 : c ≤ maxLen) (hg : Blk w g 24 cur.toArray) (hcur : cur.length = c * 3)
    (hrow : cur.take (l.length * 3) = flat l) (hB : B ≤ g) :
    Calls Tryz.prog 48 #[.slice (some ⟨g, 0, none⟩) l.length c, .int .i64 i, .int .i64 ((i : Int) + 1)] w fun e' w' =>
      e' = .returned (.slice (some ⟨g, 0, none⟩) m c) ∧ w'.ownsRow B 24 3 (.slice (some ⟨g, 0, none⟩) m c) m (flat (l.take i ++ l.drop (i + 1))) ∧ Below B w w' := by
  obtain ⟨i0, hi0, hz0, hzs, hzb⟩ := info_parts infoEnt
  unfold maxLen at hc63
  have HG := Lib.hid hg
  have HCUR := Lib.hid hcur
  have HROW := Lib.hid hrow
  have HN := Lib.hid hm
  rw [hm] at hlc hl ⊢
  clear hg hcur hrow hm
  obtain ⟨F, hF⟩ : ∃ F : List Value, F = (flat l).drop ((i + 1) * 3) := ⟨_, rfl⟩
  have hFl : F.length = (m - i) * 3 := by rw [hF, List.length_drop, flat_length, HN.out]; omega
  obtain ⟨R1, hR1⟩ : ∃ R1 : List Value, R1 = splice cur (i * 3) F := ⟨_, rfl⟩
  obtain ⟨Z, hZ⟩ : ∃ Z : List Value, Z = (Builtin.zeroCells (Value.agg #[.string ⟨#[]⟩, .int .u8 0, .string ⟨#[]⟩]).cells 1).toList := ⟨_, rfl⟩
  obtain ⟨R2, hR2⟩ : ∃ R2 : List Value, R2 = splice R1 (m * 3) Z := ⟨_, rfl⟩
  have hZl : Z.length = 3 := by rw [hZ, Array.length_toList, zero_size]
  have hR1l : R1.length = c * 3 := by rw [hR1, length_splice _ _ _ (by rw [hFl, HCUR.out]; omega), HCUR.out]
  have hR2l : R2.length = c * 3 := by rw [hR2, length_splice _ _ _ (by rw [hR1l, hZl]; omega), hR1l]
  have hsrcF : ∀ j v, F[j]? = some v → w.cell? ⟨g, (i + 1) * 3 + j, none⟩ = some v := fun j v hj => by
    rw [HG.out.cell ((i + 1) * 3 + j)]
    rw [hF, List.getElem?_drop, ← HROW.out, List.getElem?_take] at hj
    split at hj
    · simpa using hj
    · cases hj
  have hap : ∀ ty A', (0 < m - i → A' = some (⟨g, (i + 1) * 3, none⟩ : Addr)) → A' ≠ none → (Builtin.append_ #[22, 22] ty #[.slice (some ⟨g, 0, none⟩) i c, .slice A' (m - i) (c - (i + 1))]).run Tryz.prog w.drew = .ok (.slice (some ⟨g, 0, none⟩) m c) (w.drew.setRow g R1.toArray) := fun ty A' hA hA2 => by
    obtain ⟨ad, rfl⟩ := Option.ne_none_iff_exists'.1 hA2
    have h := run_append_rowK w.drew 22 ty 24 i0 Tryz.underlying22 hi0 g i c cur 24 ad (m - i) (c - (i + 1)) F 3 hzs hFl (fun j v hj => by
      have hj2 : j < F.length := (List.getElem?_eq_some_iff.1 hj).1
      have := hA (by omega)
      cases this
      rw [addr_add]; exact hsrcF j v hj) (fun v hv => flat_one l v (by rw [hF] at hv; exact List.mem_of_mem_drop hv)) (by omega) HG.out.drew (by rw [hFl, HCUR.out]; omega)
    rw [show i + (m - i) = m from by omega, ← hR1] at h
    exact h
  have hb1 : Blk (w.drew.setRow g R1.toArray) g 24 R1.toArray := setRow_heap w.drew g cur.toArray _ 24 _ HG.out.drew
  have hcl : ∀ ty, (Builtin.clear_ #[22] ty #[.slice (some ⟨g, m * 3, none⟩) 1 (c - m)]).run Tryz.prog (w.drew.setRow g R1.toArray) = .ok (.tuple #[]) ((w.drew.setRow g R1.toArray).setRow g R2.toArray) := fun ty => by
    rw [hR2, hZ]
    exact run_clear_rowK _ 22 ty 24 _ Tryz.underlying22 zeroEnt g (m * 3) 1 (c - m) R1 24 (by omega) hb1 (by rw [zero_size, hR1l]; omega) (fun v hv => by
      have e : (Builtin.zeroCells (Value.agg #[.string ⟨#[]⟩, .int .u8 0, .string ⟨#[]⟩]).cells 1).toList = [Value.string ⟨#[]⟩, .int .u8 0, .string ⟨#[]⟩] := by kernel_rfl
      have this : v ∈ [Value.string ⟨#[]⟩, .int .u8 0, .string ⟨#[]⟩] := by rw [← e]; exact hv
      simp only [List.mem_cons, List.not_mem_nil, or_false] at this
      rcases this with rfl | rfl | rfl <;> rfl)
  have HEND : Hid (((w.drew.setRow g R1.toArray).setRow g R2.toArray).ownsRow B 24 3 (.slice (some ⟨g, 0, none⟩) m c) m (flat (l.take i ++ l.drop (i + 1))) ∧ Below B w ((w.drew.setRow g R1.toArray).setRow g R2.toArray)) := by
    have hb2 : Blk ((w.drew.setRow g R1.toArray).setRow g R2.toArray) g 24 R2.toArray := setRow_heap _ g R1.toArray _ 24 _ hb1
    have hrow : R2.take (m * 3) = flat (l.take i ++ l.drop (i + 1)) := by
      rw [flat_app, ← flat_take, ← flat_drop, hR2, hR1, hF]
      exact delete_row hi (by rw [HCUR.out]; omega) (by have h := HROW.out; rw [HN.out] at h; exact h)
    refine ⟨⟨?_, .inr ⟨g, c, R2.toArray, rfl, hB, hb2, by omega, by unfold maxLen; omega, by simp [hR2l], by simpa using hrow⟩⟩, ?_⟩
    · rw [flat_length]; simp; have := HN.out; omega
    · exact below_row (below_row (Below.refl _ _).drew hB _) hB _
  have hcq1 := Lib.hid hap; have hcq2 := Lib.hid hcl
  clear hap hcl hb1 hF hR1 hR2 hsrcF hFl hR1l hR2l hZ hZl
  have h1 : (i : Int) ≤ (m : Int) + 1 := by omega
  have h2 : (i : Int) ≤ (i : Int) + 1 := by omega
  have h3 : (i : Int) + 1 ≤ (m : Int) + 1 := by omega
  have h4 : ((i : Int) == (i : Int) + 1) = false := by rw [beq_eq_false_iff_ne]; omega
  have h5 : (0 : Int) ≤ (i : Int) + 1 := by omega
  have h6 : (m : Int) + 1 ≤ (c : Int) := by omega
  have h7 : (i : Int) ≤ (c : Int) := by omega
  have h8 : (m : Int) ≤ (m : Int) + 1 := by omega
  have h9 : ¬ c = m := by omega
  have hz := hcq2.out 0
  rcases Decidable.em (c = i + 1) with hci | hci
  · have HC := Lib.hid hci; clear hci
    have HMI := Lib.hid (show ¬ 0 < m - i by have := HC.out; omega)
    go_enter Tryz.func48, Tryz.ntmps48
    go_wp2_with fail
    refine wp_region_held_drew (S := fun W => Below B w W) (by kernel_rfl) (by exact (Below.refl _ _).drew) (fun hHeld => ?_)
    refine wpAnyH_take (i := 0) (oi := { dst := some 20, op := Op.move (Operand.tmp 0), type := 22, pos := "slices.go:232", after := #[], guard := none }) (v := ?v1_0) (by kernel_rfl) (by kernel_rfl) (by kernel_rfl) (by kernel_rfl) (fun _ _ _ h => h) (Or.inl ⟨by kernel_rfl, ?h1_0⟩) hHeld ?r1_0
    case h1_0 => (intro w hSw; (try dsimp only at hSw); go_simp; try with_reducible rfl)
    try simp only [Act.put, List.setIfInBounds_toArray, List.set_cons_zero, List.set_cons_succ]
    refine wpAnyH_take (i := 1) (oi := { dst := some 21, op := Op.move (Operand.tmp 1), type := 3, pos := "slices.go:232", after := #[], guard := none }) (v := ?v1_1) (by kernel_rfl) (by kernel_rfl) (by kernel_rfl) (by kernel_rfl) (fun _ _ _ h => h) (Or.inl ⟨by kernel_rfl, ?h1_1⟩) hHeld ?r1_1
    case h1_1 => (intro w hSw; (try dsimp only at hSw); go_simp; try with_reducible rfl)
    try simp only [Act.put, List.setIfInBounds_toArray, List.set_cons_zero, List.set_cons_succ]
    refine wpAnyH_take (i := 2) (oi := { dst := some 22, op := Op.slice 22 (Operand.tmp 20) none (some (Operand.tmp 21)) none, type := 22, pos := "slices.go:232", after := #[{ on := 0, ground := Ground.data }, { on := 1, ground := Ground.data }], guard := none }) (v := ?v1_2) (by kernel_rfl) (by kernel_rfl) (by kernel_rfl) (by kernel_rfl) (fun _ _ _ h => h) (Or.inl ⟨by kernel_rfl, ?h1_2⟩) hHeld ?r1_2
    case h1_2 => (intro w hSw; (try dsimp only at hSw); go_simp; try with_reducible rfl)
    try simp only [Act.put, List.setIfInBounds_toArray, List.set_cons_zero, List.set_cons_succ]
    refine wpAnyH_take (i := 3) (oi := { dst := some 23, op := Op.move (Operand.tmp 0), type := 22, pos := "slices.go:232", after := #[], guard := none }) (v := ?v1_3) (by kernel_rfl) (by kernel_rfl) (by kernel_rfl) (by kernel_rfl) (fun _ _ _ h => h) (Or.inl ⟨by kernel_rfl, ?h1_3⟩) hHeld ?r1_3
    case h1_3 => (intro w hSw; (try dsimp only at hSw); go_simp; try with_reducible rfl)
    try simp only [Act.put, List.setIfInBounds_toArray, List.set_cons_zero, List.set_cons_succ]
    refine wpAnyH_take (i := 4) (oi := { dst := some 24, op := Op.move (Operand.tmp 2), type := 3, pos := "slices.go:232", after := #[], guard := none }) (v := ?v1_4) (by kernel_rfl) (by kernel_rfl) (by kernel_rfl) (by kernel_rfl) (fun _ _ _ h => h) (Or.inl ⟨by kernel_rfl, ?h1_4⟩) hHeld ?r1_4
    case h1_4 => (intro w hSw; (try dsimp only at hSw); go_simp; try with_reducible rfl)
    try simp only [Act.put, List.setIfInBounds_toArray, List.set_cons_zero, List.set_cons_succ]
    refine wpAnyH_take (i := 5) (oi := { dst := some 25, op := Op.slice 22 (Operand.tmp 23) (some (Operand.tmp 24)) none none, type := 22, pos := "slices.go:232", after := #[{ on := 3, ground := Ground.data }, { on := 4, ground := Ground.data }], guard := none }) (v := ?v1_5) (by kernel_rfl) (by kernel_rfl) (by kernel_rfl) (by kernel_rfl) (fun _ _ _ h => h) (Or.inl ⟨by kernel_rfl, ?h1_5⟩) hHeld ?r1_5
    case h1_5 => (intro w hSw; (try dsimp only at hSw); go_simp; rw [if_pos HC.out]; try with_reducible rfl)
    try simp only [Act.put, List.setIfInBounds_toArray, List.set_cons_zero, List.set_cons_succ]
    refine wpAnyH_ready (rs := [6]) (by kernel_rfl) (by simp) ?_
    refine AllReadyH.cons (i := 6) (o := { dst := some 26, op := Op.call { callee := Callee.builtin Builtin.append, args := #[Operand.tmp 22, Operand.tmp 25], argTypes := #[22, 22] }, type := 22, pos := "slices.go:232", after := #[{ on := 2, ground := Ground.data }, { on := 5, ground := Ground.data }], guard := none }) rfl (fun K hK => ?_) AllReadyH.nil
    refine step_append_eq rfl _ _ 22 22 rfl _ _ (by rfl) (by rfl) (hcq1.out _ (some ⟨g, 0, none⟩) (fun h => absurd h HMI.out) (by simp)) ?_
    have hKeep : Below B w (w.drew.setRow g R1.toArray) := below_row (Below.refl _ _).drew hB _
    refine hK.out _ _ (by exact hKeep) (fun hHeld => ?_)
    clear hK K
    try simp only [Act.put, List.setIfInBounds_toArray, List.set_cons_zero, List.set_cons_succ]
    refine wpAnyH_take (i := 7) (oi := { dst := some 0, op := Op.assign (Operand.tmp 26), type := 22, pos := "slices.go:232", after := #[{ on := 6, ground := Ground.data }, { on := 6, ground := Ground.chain }, { on := 0, ground := Ground.phase }, { on := 1, ground := Ground.phase }, { on := 2, ground := Ground.phase }, { on := 3, ground := Ground.phase }, { on := 4, ground := Ground.phase }, { on := 5, ground := Ground.phase }, { on := 6, ground := Ground.phase }], guard := none }) (v := ?v1_7) (by kernel_rfl) (by kernel_rfl) (by kernel_rfl) (by kernel_rfl) (fun _ _ _ h => h) (Or.inl ⟨by kernel_rfl, ?h1_7⟩) hHeld ?r1_7
    case h1_7 => (intro w hSw; (try dsimp only at hSw); go_simp; try with_reducible rfl)
    try simp only [Act.put, List.setIfInBounds_toArray, List.set_cons_zero, List.set_cons_succ]
    refine wpAnyH_done (by kernel_rfl) ?_ _
    go_wp2_with fail
    go_ret
    exact ⟨rfl, HEND.out⟩
  · skip
    go_enter Tryz.func48, Tryz.ntmps48
    go_wp2_with fail
    refine wp_region_held_drew (S := fun W => Below B w W) (by kernel_rfl) (by exact (Below.refl _ _).drew) (fun hHeld => ?_)
    refine wpAnyH_take (i := 0) (oi := { dst := some 20, op := Op.move (Operand.tmp 0), type := 22, pos := "slices.go:232", after := #[], guard := none }) (v := ?v2_0) (by kernel_rfl) (by kernel_rfl) (by kernel_rfl) (by kernel_rfl) (fun _ _ _ h => h) (Or.inl ⟨by kernel_rfl, ?h2_0⟩) hHeld ?r2_0
    case h2_0 => (intro w hSw; (try dsimp only at hSw); go_simp; try with_reducible rfl)
    try simp only [Act.put, List.setIfInBounds_toArray, List.set_cons_zero, List.set_cons_succ]
    refine wpAnyH_take (i := 1) (oi := { dst := some 21, op := Op.move (Operand.tmp 1), type := 3, pos := "slices.go:232", after := #[], guard := none }) (v := ?v2_1) (by kernel_rfl) (by kernel_rfl) (by kernel_rfl) (by kernel_rfl) (fun _ _ _ h => h) (Or.inl ⟨by kernel_rfl, ?h2_1⟩) hHeld ?r2_1
    case h2_1 => (intro w hSw; (try dsimp only at hSw); go_simp; try with_reducible rfl)
    try simp only [Act.put, List.setIfInBounds_toArray, List.set_cons_zero, List.set_cons_succ]
    refine wpAnyH_take (i := 2) (oi := { dst := some 22, op := Op.slice 22 (Operand.tmp 20) none (some (Operand.tmp 21)) none, type := 22, pos := "slices.go:232", after := #[{ on := 0, ground := Ground.data }, { on := 1, ground := Ground.data }], guard := none }) (v := ?v2_2) (by kernel_rfl) (by kernel_rfl) (by kernel_rfl) (by kernel_rfl) (fun _ _ _ h => h) (Or.inl ⟨by kernel_rfl, ?h2_2⟩) hHeld ?r2_2
    case h2_2 => (intro w hSw; (try dsimp only at hSw); go_simp; try with_reducible rfl)
    try simp only [Act.put, List.setIfInBounds_toArray, List.set_cons_zero, List.set_cons_succ]
    refine wpAnyH_take (i := 3) (oi := { dst := some 23, op := Op.move (Operand.tmp 0), type := 22, pos := "slices.go:232", after := #[], guard := none }) (v := ?v2_3) (by kernel_rfl) (by kernel_rfl) (by kernel_rfl) (by kernel_rfl) (fun _ _ _ h => h) (Or.inl ⟨by kernel_rfl, ?h2_3⟩) hHeld ?r2_3
    case h2_3 => (intro w hSw; (try dsimp only at hSw); go_simp; try with_reducible rfl)
    try simp only [Act.put, List.setIfInBounds_toArray, List.set_cons_zero, List.set_cons_succ]
    refine wpAnyH_take (i := 4) (oi := { dst := some 24, op := Op.move (Operand.tmp 2), type := 3, pos := "slices.go:232", after := #[], guard := none }) (v := ?v2_4) (by kernel_rfl) (by kernel_rfl) (by kernel_rfl) (by kernel_rfl) (fun _ _ _ h => h) (Or.inl ⟨by kernel_rfl, ?h2_4⟩) hHeld ?r2_4
    case h2_4 => (intro w hSw; (try dsimp only at hSw); go_simp; try with_reducible rfl)
    try simp only [Act.put, List.setIfInBounds_toArray, List.set_cons_zero, List.set_cons_succ]
    refine wpAnyH_take (i := 5) (oi := { dst := some 25, op := Op.slice 22 (Operand.tmp 23) (some (Operand.tmp 24)) none none, type := 22, pos := "slices.go:232", after := #[{ on := 3, ground := Ground.data }, { on := 4, ground := Ground.data }], guard := none }) (v := ?v2_5) (by kernel_rfl) (by kernel_rfl) (by kernel_rfl) (by kernel_rfl) (fun _ _ _ h => h) (Or.inl ⟨by kernel_rfl, ?h2_5⟩) hHeld ?r2_5
    case h2_5 => (intro w hSw; (try dsimp only at hSw); go_simp; try with_reducible rfl)
    try simp only [Act.put, List.setIfInBounds_toArray, List.set_cons_zero, List.set_cons_succ]
    refine wpAnyH_ready (rs := [6]) (by kernel_rfl) (by simp) ?_
    refine AllReadyH.cons (i := 6) (o := { dst := some 26, op := Op.call { callee := Callee.builtin Builtin.append, args := #[Operand.tmp 22, Operand.tmp 25], argTypes := #[22, 22] }, type := 22, pos := "slices.go:232", after := #[{ on := 2, ground := Ground.data }, { on := 5, ground := Ground.data }], guard := none }) rfl (fun K hK => ?_) AllReadyH.nil
    refine step_append_eq rfl _ _ 22 22 rfl _ _ (by rfl) (by rfl) (hcq1.out _ (some ⟨g, (i + 1) * 3, none⟩) (fun h => by rfl) (by simp)) ?_
    have hKeep : Below B w (w.drew.setRow g R1.toArray) := below_row (Below.refl _ _).drew hB _
    refine hK.out _ _ (by exact hKeep) (fun hHeld => ?_)
    clear hK K
    try simp only [Act.put, List.setIfInBounds_toArray, List.set_cons_zero, List.set_cons_succ]
    refine wpAnyH_take (i := 7) (oi := { dst := some 0, op := Op.assign (Operand.tmp 26), type := 22, pos := "slices.go:232", after := #[{ on := 6, ground := Ground.data }, { on := 6, ground := Ground.chain }, { on := 0, ground := Ground.phase }, { on := 1, ground := Ground.phase }, { on := 2, ground := Ground.phase }, { on := 3, ground := Ground.phase }, { on := 4, ground := Ground.phase }, { on := 5, ground := Ground.phase }, { on := 6, ground := Ground.phase }], guard := none }) (v := ?v2_7) (by kernel_rfl) (by kernel_rfl) (by kernel_rfl) (by kernel_rfl) (fun _ _ _ h => h) (Or.inl ⟨by kernel_rfl, ?h2_7⟩) hHeld ?r2_7
    case h2_7 => (intro w hSw; (try dsimp only at hSw); go_simp; try with_reducible rfl)
    try simp only [Act.put, List.setIfInBounds_toArray, List.set_cons_zero, List.set_cons_succ]
    refine wpAnyH_done (by kernel_rfl) ?_ _
    go_wp2_with fail
    go_ret
    exact ⟨rfl, HEND.out⟩
theorem deleteE_any (l : List Ent) (i : Nat) (v0 : Value) (B : Nat) (w : World) (hi : i < l.length) (hl : l.length ≤ 1048576) (hown : w.ownsRow B 24 3 v0 l.length (flat l)) :
    Calls Tryz.prog 48 #[v0, .int .i64 i, .int .i64 ((i : Int) + 1)] w fun e' w' => ∃ v, e' = .returned v ∧ w'.ownsRow B 24 3 v (l.length - 1) (flat (l.take i ++ l.drop (i + 1))) ∧ Below B w w' := by
  rcases hown.2 with ⟨-, h0⟩ | ⟨g, cap, cur, rfl, hg, hh, hnc, hcm, hsz, hrow⟩
  · omega
  · refine (delE_row l (l.length - 1) i g cap B cur.toList w (by omega) (by omega) hl hnc hcm (by simpa [Blk] using hh) (by simpa using hsz) hrow hg).mono ?_
    rintro e' w' ⟨h1, h2, h3⟩
    exact ⟨_, h1, h2, h3⟩
end Go.Proofs.YtbbgieopcmjoeaaGreatDoor
