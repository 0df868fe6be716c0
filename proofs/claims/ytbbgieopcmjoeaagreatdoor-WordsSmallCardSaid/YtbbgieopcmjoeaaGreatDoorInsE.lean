/- slices.Clone and slices.Insert over entries. -/
import Derived.Test.YtbbgieopcmjoeaaGreatDoorCopyK
import Derived.Test.YtbbgieopcmjoeaaGreatDoorAppAny
import Derived.Test.YtbbgieopcmjoeaaGreatDoorOrder
import Derived.Deep.RegionHeld3
namespace Go.Proofs.YtbbgieopcmjoeaaGreatDoor
open Go.RowKit
theorem infoEnt : (Tryz.prog.info? 24).map (fun i => (i.zero, i.size, i.bytes)) = some (some (.agg #[.string ⟨#[]⟩, .int .u8 0, .string ⟨#[]⟩]), 3, 40) := by kernel_rfl
theorem sizeEnt : (Tryz.prog.info? 24).map (·.size) = some 3 := by kernel_rfl
theorem sizeOfEnt (w : World) : (Go.sizeOf 24).run Tryz.prog w = .ok 3 w := by kernel_rfl
theorem own_empty (W : World) (base t : Nat) (hb : base ≤ W.heap.size) : (W.alloc (.cells #[] t)).ownsRow base t 3 (.slice (some ⟨W.heap.size, 0, none⟩) 0 0) 0 [] :=
  ⟨rfl, .inr ⟨W.heap.size, 0, #[], rfl, hb, heap_alloc_new W _, Nat.le_refl _, Nat.zero_le _, rfl, rfl⟩⟩
theorem blk_reads {W : World} {g t size n : Nat} {cs : List Value} (h : Blk W g t cs.toArray) (hc : cs.length = n * size) : Reads W W.heap.size size (some ⟨g, 0, none⟩) n cs := by
  refine ⟨hc, fun _ => ⟨_, rfl, h.lt, fun j u hu => ?_⟩⟩
  have e : (⟨g, 0, none⟩ : Addr).add j = ⟨g, j, none⟩ := by unfold Addr.add; split <;> simp_all
  rw [e, h.cell j]
  simpa using hu
theorem flat_one (l : List Ent) : ∀ u ∈ flat l, u.oneCell' = true := by
  intro u hu
  obtain ⟨e, -, he⟩ := List.mem_flatMap.1 hu
  simp only [entCells, List.mem_cons, List.not_mem_nil, or_false] at he
  rcases he with rfl | rfl | rfl <;> rfl
theorem flat_app (a b : List Ent) : flat (a ++ b) = flat a ++ flat b := by simp [flat]
theorem flat_drop (l : List Ent) (k : Nat) : (flat l).drop (k * 3) = flat (l.drop k) := by
  have h1 := flat_app (l.take k) (l.drop k)
  rw [List.take_append_drop, ← flat_take] at h1
  have h2 := (List.take_append_drop (k * 3) (flat l)).symm
  exact List.append_cancel_left (h2.symm.trans h1)
theorem flat_put (l : List Ent) (e : Ent) (i : Nat) : (flat l).take (i * 3) ++ (entCells e ++ (flat l).drop (i * 3)) = flat (l.take i ++ e :: l.drop i) := by
  rw [flat_take, flat_drop, flat_app]; rfl
set_option maxRecDepth 100000 in
theorem cloneE_any (l : List Ent) (A : Option Addr) (c : Nat) (w : World) (hl : l.length ≤ 1048576) (hr : Reads w w.heap.size 3 A l.length (flat l)) :
    Calls Tryz.prog 46 #[.slice A l.length c] w fun e w' => ∃ v, e = .returned v ∧ w'.ownsRow w.heap.size 24 3 v l.length (flat l) ∧ Below w.heap.size w w' := by
  obtain ⟨i0, hi, hz0, hz1, hz2⟩ := info_parts infoEnt
  cases A with
  | none =>
    have h0 : l.length = 0 := by
      rcases Nat.eq_zero_or_pos l.length with h | h
      · exact h
      · obtain ⟨ad, h, _⟩ := hr.2 h; cases h
    have hln : l = [] := List.eq_nil_of_length_eq_zero h0
    subst hln
    clear hr h0
    have hq := fun W : World => Lib.run_eql_slice_nil (P := Tryz.prog) W 22 24 none 0 c 0 0 Tryz.underlying22
    go_enter Tryz.func46, Tryz.ntmps46
    go_wp2_with fail
    go_ret
    exact ⟨_, rfl, World.ownsRow_nil _ _ _ _, Below.refl _ _⟩
  | some ad =>
    have HRD := Lib.hid hr; clear hr
    have hq := fun W : World => Lib.run_eql_slice_nil (P := Tryz.prog) W 22 24 (some ad) l.length c 0 0 Tryz.underlying22
    go_enter Tryz.func46, Tryz.ntmps46
    go_wp2_with (at_builtin; refine wpList_append_any _ rfl _ _ 22 rfl w.heap.size 24 i0 _ 3 40 Tryz.underlying22 hi hz0 hz1 hz2 rfl (by decide) _ 0 [] rfl (own_empty w w.heap.size 24 (Nat.le_refl _)) w.heap.size (some ad) l.length c (flat l) rfl ((HRD.out).alloc (Nat.le_refl _) _) (flat_one l) ?b1 ?c1 (by simp) ?_)
    case b1 => (unfold maxLen; omega)
    case c1 => omega
    intro v1 w1 hown1 hg1 _
    have HB := Lib.hid (((Below.refl w.heap.size w).alloc (Nat.le_refl _) (.cells #[] 24)).grown hg1 (by simp) (by simp [Value.ownBlock]))
    have HO := Lib.hid hown1
    clear hg1 hown1
    go_wp2_with fail
    go_ret
    exact ⟨v1, rfl, by simpa using HO.out, HB.out⟩
theorem shape_blk {W : World} {g t : Nat} {cs : Array Value} (h : Blk W g t cs) : W.shape? g = some (t, cs.size) := by unfold Blk at h; simp [World.shape?, h]
theorem overlaps_no (w : World) (vb g o vc lb cb : Nat) (cur cs : Array Value) (T : TypeId) (hv : Blk w vb T cs) (hg : Blk w g T cur) (hne : vb ≠ g) (hc : cur.size ≠ 0) :
    (callFunc 74 #[.slice (some ⟨vb, 0, none⟩) 1 vc, .slice (some ⟨g, o, none⟩) lb cb]).run Tryz.prog w = .ok (.value (.bool false)) w := by
  rw [run_callFunc_extern Tryz.func74 (by kernel_rfl) (by kernel_rfl) (by kernel_rfl) (e := Extern.SlicesOverlaps.overlaps #[22, 22] #[4]) (by kernel_rfl),
    Lib.run_overlaps_apart w 22 4 24 Tryz.underlying22 3 sizeOfEnt ⟨vb, 0, none⟩ ⟨g, o, none⟩ 1 vc lb cb hne T T cs.size cur.size (shape_blk hv) (shape_blk hg) hc (hv.frozen 0) (hv.frozen _)]
  rfl
set_option maxRecDepth 100000 in
set_option maxHeartbeats 1600000 in
theorem insE_room (l : List Ent) (e : Ent) (g c i vb vc B : Nat) (cur : List Value) (w : World) (hi : i < l.length) (hroom : l.length + 1 ≤ c) (hc63 : c ≤ maxLen) (hg : Blk w g 24 cur.toArray) (hcur : cur.length = c * 3)
    (hrow : cur.take (l.length * 3) = flat l) (hv : Blk w vb 24 #[str e.1, byteV e.2.1, str e.2.2]) (hne : vb ≠ g) (hB : B ≤ g) :
    Calls Tryz.prog 45 #[.slice (some ⟨g, 0, none⟩) l.length c, .int .i64 i, .slice (some ⟨vb, 0, none⟩) 1 vc] w fun e' w' =>
      e' = .returned (.slice (some ⟨g, 0, none⟩) (l.length + 1) c) ∧ w'.ownsRow B 24 3 (.slice (some ⟨g, 0, none⟩) (l.length + 1) c) (l.length + 1) (flat (l.take i ++ e :: l.drop i)) ∧ Below B w w' := by
  unfold maxLen at hc63
  obtain ⟨n, hn⟩ : ∃ n, l.length = n := ⟨_, rfl⟩
  have HOV := Lib.hid (fun o lb cb => overlaps_no w vb g o vc lb cb cur.toArray _ _ hv hg hne (by rw [List.size_toArray, hcur]; omega))
  have hov := HOV.out
  have HG := Lib.hid hg; have HV := Lib.hid hv
  have HCUR := Lib.hid hcur
  have HROW := Lib.hid hrow
  have HN := Lib.hid hn
  rw [hn] at hi hroom ⊢
  clear hg hv hcur hrow hn
  have h1 : (i : Int) ≤ (n : Int) := by omega
  have h2 : ((i : Int) == (n : Int)) = false := by rw [beq_eq_false_iff_ne]; omega
  have h3 : ¬ ((c : Int) < (n : Int) + 1) := by omega
  have h4 : ¬ c = i := by omega
  have h5 : ¬ c = i + 1 := by omega
  have h6 : (0 : Int) ≤ (i : Int) + 1 := by omega
  have h7 : (i : Int) + 1 ≤ (n : Int) + 1 := by omega
  have h8 : (i : Int) ≤ (n : Int) + 1 := by omega
  go_enter Tryz.func45, Tryz.ntmps45
  go_wp2_with (simp only [hov])
  clear hov
  have hwi := Lib.hid (IntWalk.i64_in ((i : Int) + 1) (by omega))
  obtain ⟨F, hF⟩ : ∃ F : List Value, F = (flat l).drop (i * 3) := ⟨_, rfl⟩
  have hFl : F.length = (n - i) * 3 := by rw [hF, List.length_drop, flat_length, HN.out]; omega
  obtain ⟨R1, hR1⟩ : ∃ R1 : List Value, R1 = splice cur (i * 3 + 3) F := ⟨_, rfl⟩
  obtain ⟨R2, hR2⟩ : ∃ R2 : List Value, R2 = splice R1 (i * 3) (entCells e) := ⟨_, rfl⟩
  have hR1l : R1.length = c * 3 := by rw [hR1, length_splice _ _ _ (by rw [hFl, HCUR.out]; omega), HCUR.out]
  have hR2l : R2.length = c * 3 := by rw [hR2, length_splice _ _ _ (by rw [hR1l]; show i * 3 + 3 ≤ _; omega), hR1l]
  have hsrcF : ∀ j v, F[j]? = some v → w.cell? ⟨g, i * 3 + j, none⟩ = some v := fun j v hj => by
    rw [HG.out.cell (i * 3 + j)]
    rw [hF, List.getElem?_drop, ← HROW.out, List.getElem?_take] at hj
    split at hj
    · simpa using hj
    · cases hj
  have hcp1 : ∀ ty, (Builtin.copy_ #[22, 22] ty #[.slice (some ⟨g, (i + 1) * 3, none⟩) (n - i) (c - (i + 1)), .slice (some ⟨g, i * 3, none⟩) (n + 1 - i) (c - i)]).run Tryz.prog w.drew = .ok (goInt ((n - i : Nat) : Int)) (w.drew.setRow g R1.toArray) := fun ty => by
    rw [hR1, show (i + 1) * 3 = i * 3 + 3 from by omega]
    exact run_copy_rowK w.drew _ _ ty 24 g (i * 3 + 3) (n - i) (c - (i + 1)) ⟨g, i * 3, none⟩ (n + 1 - i) (c - i) cur 24 F (n - i) 3 Tryz.underlying22 sizeEnt HG.out.drew (by simp only [Nat.min_def]; split <;> omega) hFl
      (fun j v hj => by rw [addr_add]; exact hsrcF j v hj) (by rw [hFl, HCUR.out]; omega) (fun v hv => flat_one l v (by rw [hF] at hv; exact List.mem_of_mem_drop hv))
  have hb1 : Blk (w.drew.setRow g R1.toArray) g 24 R1.toArray := setRow_heap w.drew g cur.toArray _ 24 _ HG.out.drew
  have hv1 : Blk (w.drew.setRow g R1.toArray) vb 24 #[str e.1, byteV e.2.1, str e.2.2] := (setRow_other w.drew g vb _ hne).trans HV.out.drew
  have hcp2 : ∀ ty, (Builtin.copy_ #[22, 22] ty #[.slice (some ⟨g, i * 3, none⟩) (n + 1 - i) (c - i), .slice (some ⟨vb, 0, none⟩) 1 vc]).run Tryz.prog (w.drew.setRow g R1.toArray) = .ok (goInt ((1 : Nat) : Int)) ((w.drew.setRow g R1.toArray).setRow g R2.toArray) := fun ty => by
    rw [hR2]
    exact run_copy_rowK _ _ _ ty 24 g (i * 3) (n + 1 - i) (c - i) ⟨vb, 0, none⟩ 1 vc R1 24 (entCells e) 1 3 Tryz.underlying22 sizeEnt hb1 (by simp only [Nat.min_def]; split <;> omega) rfl
      (fun j v hj => by rw [addr_add, Nat.zero_add, hv1.cell j]; simpa using hj) (by rw [hR1l]; show i * 3 + 3 ≤ _; omega) (fun v hv => by
        simp only [entCells, List.mem_cons, List.not_mem_nil, or_false] at hv
        rcases hv with rfl | rfl | rfl <;> rfl)
  have HEND : Hid (((w.drew.setRow g R1.toArray).setRow g R2.toArray).ownsRow B 24 3 (.slice (some ⟨g, 0, none⟩) (n + 1) c) (n + 1) (flat (l.take i ++ e :: l.drop i)) ∧ Below B w ((w.drew.setRow g R1.toArray).setRow g R2.toArray)) := by
    have hb2 : Blk ((w.drew.setRow g R1.toArray).setRow g R2.toArray) g 24 R2.toArray := setRow_heap _ g R1.toArray _ 24 _ hb1
    have hrow : R2.take ((n + 1) * 3) = flat (l.take i ++ e :: l.drop i) := by
      rw [← flat_put, hR2, hR1, hF]
      exact insert_row hi hroom HCUR.out (by have h := HROW.out; rw [HN.out] at h; exact h) rfl
    refine ⟨⟨?_, .inr ⟨g, c, R2.toArray, rfl, hB, hb2, hroom, by unfold maxLen; omega, by simp [hR2l], by simpa using hrow⟩⟩, ?_⟩
    · rw [flat_length]; simp; have := HN.out; omega
    · exact below_row (below_row (Below.refl _ _).drew hB _) hB _
  have hcq1 := Lib.hid hcp1; have hcq2 := Lib.hid hcp2
  clear hcp1 hcp2 hb1 hv1 hF hR1 hR2 hsrcF hFl hR1l hR2l
  refine wp_region_held_drew (S := fun W => Below B w W) (by kernel_rfl) (by exact (Below.refl _ _).drew) (fun hHeld => ?_)
  refine wpAnyH_take (i := 0) (oi := { dst := some 69, op := Op.move (Operand.tmp 0), type := 22, pos := "slices.go:178", after := #[], guard := none }) (v := ?v1_0) (by kernel_rfl) (by kernel_rfl) (by kernel_rfl) (by kernel_rfl) (fun _ _ _ h => h) (Or.inl ⟨by kernel_rfl, ?h1_0⟩) hHeld ?r1_0
  case h1_0 => (intro w hSw; (try dsimp only at hSw); go_simp; try with_reducible rfl)
  try simp only [Act.put, List.setIfInBounds_toArray, List.set_cons_zero, List.set_cons_succ]
  refine wpAnyH_take (i := 1) (oi := { dst := some 70, op := Op.move (Operand.tmp 1), type := 3, pos := "slices.go:178", after := #[], guard := none }) (v := ?v1_1) (by kernel_rfl) (by kernel_rfl) (by kernel_rfl) (by kernel_rfl) (fun _ _ _ h => h) (Or.inl ⟨by kernel_rfl, ?h1_1⟩) hHeld ?r1_1
  case h1_1 => (intro w hSw; (try dsimp only at hSw); go_simp; try with_reducible rfl)
  try simp only [Act.put, List.setIfInBounds_toArray, List.set_cons_zero, List.set_cons_succ]
  refine wpAnyH_take (i := 2) (oi := { dst := some 71, op := Op.move (Operand.tmp 7), type := 3, pos := "slices.go:178", after := #[], guard := none }) (v := ?v1_2) (by kernel_rfl) (by kernel_rfl) (by kernel_rfl) (by kernel_rfl) (fun _ _ _ h => h) (Or.inl ⟨by kernel_rfl, ?h1_2⟩) hHeld ?r1_2
  case h1_2 => (intro w hSw; (try dsimp only at hSw); go_simp; try with_reducible rfl)
  try simp only [Act.put, List.setIfInBounds_toArray, List.set_cons_zero, List.set_cons_succ]
  refine wpAnyH_take (i := 3) (oi := { dst := some 72, op := Op.binOp BinOp.add 3 (Operand.tmp 70) (Operand.tmp 71) 3, type := 3, pos := "slices.go:178", after := #[{ on := 1, ground := Ground.data }, { on := 2, ground := Ground.data }], guard := none }) (v := ?v1_3) (by kernel_rfl) (by kernel_rfl) (by kernel_rfl) (by kernel_rfl) (fun _ _ _ h => h) (Or.inl ⟨by kernel_rfl, ?h1_3⟩) hHeld ?r1_3
  case h1_3 => (intro w hSw; (try dsimp only at hSw); go_simp; rw [hwi.out])
  try simp only [Act.put, List.setIfInBounds_toArray, List.set_cons_zero, List.set_cons_succ]
  refine wpAnyH_take (i := 4) (oi := { dst := some 73, op := Op.slice 22 (Operand.tmp 69) (some (Operand.tmp 72)) none none, type := 22, pos := "slices.go:178", after := #[{ on := 0, ground := Ground.data }, { on := 3, ground := Ground.data }], guard := none }) (v := ?v1_4) (by kernel_rfl) (by kernel_rfl) (by kernel_rfl) (by kernel_rfl) (fun _ _ _ h => h) (Or.inl ⟨by kernel_rfl, ?h1_4⟩) hHeld ?r1_4
  case h1_4 => (intro w hSw; (try dsimp only at hSw); go_simp; try with_reducible rfl)
  try simp only [Act.put, List.setIfInBounds_toArray, List.set_cons_zero, List.set_cons_succ]
  refine wpAnyH_take (i := 5) (oi := { dst := some 74, op := Op.move (Operand.tmp 0), type := 22, pos := "slices.go:178", after := #[], guard := none }) (v := ?v1_5) (by kernel_rfl) (by kernel_rfl) (by kernel_rfl) (by kernel_rfl) (fun _ _ _ h => h) (Or.inl ⟨by kernel_rfl, ?h1_5⟩) hHeld ?r1_5
  case h1_5 => (intro w hSw; (try dsimp only at hSw); go_simp; try with_reducible rfl)
  try simp only [Act.put, List.setIfInBounds_toArray, List.set_cons_zero, List.set_cons_succ]
  refine wpAnyH_take (i := 6) (oi := { dst := some 75, op := Op.move (Operand.tmp 1), type := 3, pos := "slices.go:178", after := #[], guard := none }) (v := ?v1_6) (by kernel_rfl) (by kernel_rfl) (by kernel_rfl) (by kernel_rfl) (fun _ _ _ h => h) (Or.inl ⟨by kernel_rfl, ?h1_6⟩) hHeld ?r1_6
  case h1_6 => (intro w hSw; (try dsimp only at hSw); go_simp; try with_reducible rfl)
  try simp only [Act.put, List.setIfInBounds_toArray, List.set_cons_zero, List.set_cons_succ]
  refine wpAnyH_take (i := 7) (oi := { dst := some 76, op := Op.slice 22 (Operand.tmp 74) (some (Operand.tmp 75)) none none, type := 22, pos := "slices.go:178", after := #[{ on := 5, ground := Ground.data }, { on := 6, ground := Ground.data }], guard := none }) (v := ?v1_7) (by kernel_rfl) (by kernel_rfl) (by kernel_rfl) (by kernel_rfl) (fun _ _ _ h => h) (Or.inl ⟨by kernel_rfl, ?h1_7⟩) hHeld ?r1_7
  case h1_7 => (intro w hSw; (try dsimp only at hSw); go_simp; try with_reducible rfl)
  try simp only [Act.put, List.setIfInBounds_toArray, List.set_cons_zero, List.set_cons_succ]
  refine wpAnyH_ready (rs := [8]) (by kernel_rfl) (by simp) ?_
  refine AllReadyH.cons (i := 8) (o := { dst := some 77, op := Op.call { callee := Callee.builtin Builtin.copy, args := #[Operand.tmp 73, Operand.tmp 76], argTypes := #[22, 22] }, type := 3, pos := "slices.go:178", after := #[{ on := 4, ground := Ground.data }, { on := 7, ground := Ground.data }], guard := none }) rfl (fun K hK => ?_) AllReadyH.nil
  refine step_copy_eq rfl _ _ 22 22 rfl _ _ (by rfl) (by rfl) (hcq1.out _) ?_
  have hKeep : Below B w (w.drew.setRow g R1.toArray) := below_row (Below.refl _ _).drew hB _
  refine hK.out _ _ (by exact hKeep) (fun hHeld => ?_)
  clear hK K
  try simp only [Act.put, List.setIfInBounds_toArray, List.set_cons_zero, List.set_cons_succ]
  refine wpAnyH_done (by kernel_rfl) ?_ _
  have hz := hcq2.out 3
  go_wp2_with fail
  go_ret
  exact ⟨rfl, HEND.out⟩
theorem ent_one (e : Ent) : ∀ v ∈ entCells e, v.oneCell' = true := fun v hv => by
  simp only [entCells, List.mem_cons, List.not_mem_nil, or_false] at hv
  rcases hv with rfl | rfl | rfl <;> rfl
theorem own_geE {W : World} {base e size n : Nat} {v : Value} {xs : List Value} (h : W.ownsRow base e size v n xs) : ∀ k, v.ownBlock = some k → base ≤ k := by
  intro k hk
  rcases h.2 with ⟨rfl, _⟩ | ⟨g, cap, cur, rfl, hg, _⟩
  · simp [Value.ownBlock] at hk
  · have : g = k := by simpa [Value.ownBlock] using hk
    omega
theorem zero_size (k : Nat) : (Builtin.zeroCells (Value.agg #[.string ⟨#[]⟩, .int .u8 0, .string ⟨#[]⟩]).cells k).size = k * 3 := by simp [Builtin.zeroCells, Value.cells]
set_option maxRecDepth 100000 in
set_option maxHeartbeats 1600000 in
theorem insE_grow (l : List Ent) (e : Ent) (g c i vb vc B : Nat) (cur : List Value) (w : World) (hi : i < l.length) (hl : l.length ≤ 1048576) (hlc : l.length ≤ c) (hroom : c < l.length + 1) (hg : Blk w g 24 cur.toArray) (hcur : cur.length = c * 3)
    (hrow : cur.take (l.length * 3) = flat l) (hv : Blk w vb 24 #[str e.1, byteV e.2.1, str e.2.2]) (hB : B ≤ w.heap.size) :
    Calls Tryz.prog 45 #[.slice (some ⟨g, 0, none⟩) l.length c, .int .i64 i, .slice (some ⟨vb, 0, none⟩) 1 vc] w fun e' w' =>
      ∃ G, e' = .returned (.slice (some ⟨w.heap.size, 0, none⟩) (l.length + 1) G) ∧ w'.ownsRow B 24 3 (.slice (some ⟨w.heap.size, 0, none⟩) (l.length + 1) G) (l.length + 1) (flat (l.take i ++ e :: l.drop i)) ∧ Below B w w' := by
  obtain ⟨i0, hi0, hz0, hzs, hzb⟩ := info_parts infoEnt
  obtain ⟨n, hn⟩ : ∃ n, l.length = n := ⟨_, rfl⟩
  have HG := Lib.hid hg; have HV := Lib.hid hv
  have HCUR := Lib.hid hcur
  have HROW := Lib.hid hrow
  have HN := Lib.hid hn
  rw [hn] at hi hroom hlc hl ⊢
  clear hg hv hcur hrow hn
  obtain rfl : c = n := by omega
  have hgw := HG.out.lt
  have hvw := HV.out.lt
  have hfl : (flat l).length = c * 3 := by rw [flat_length, HN.out]
  have hcell : ∀ j v, (flat l)[j]? = some v → w.cell? ⟨g, j, none⟩ = some v := fun j v hj => by
    rw [HG.out.cell j]
    rw [← HROW.out, List.getElem?_take] at hj
    split at hj
    · simpa using hj
    · cases hj
  have hold : (Builtin.firstCells i0.size i (.slice (some ⟨g, 0, none⟩) i c)).run Tryz.prog w.drew = .ok ((flat l).take (i * 3)).toArray w.drew := by
    rw [hzs]
    exact run_firstCells_some w.drew 3 i ⟨g, 0, none⟩ i c ((flat l).take (i * 3)) (by rw [List.length_take]; omega) (fun j v hj => by
      rw [addr_add, Nat.zero_add]
      rw [List.getElem?_take] at hj
      split at hj
      · exact hcell j v hj
      · cases hj)
  obtain ⟨G, hG⟩ : ∃ G, G = grownCap w (c + 1) c 24 := ⟨_, rfl⟩
  have hGn : c + 1 ≤ G := by rw [hG]; exact grownCap_ge w _ _ _
  have hG63 : G ≤ maxLen := by rw [hG]; exact grownCap_le_maxLen w (c + 1) c 24 (by unfold maxLen; omega)
  obtain ⟨ROW, hROW⟩ : ∃ ROW : List Value, ROW = (((flat l).take (i * 3)).toArray ++ Builtin.zeroCells (Value.agg #[.string ⟨#[]⟩, .int .u8 0, .string ⟨#[]⟩]).cells (c + 1 - i) ++ Builtin.zeroCells (Value.agg #[.string ⟨#[]⟩, .int .u8 0, .string ⟨#[]⟩]).cells (G - (c + 1))).toList := ⟨_, rfl⟩
  have hRl : ROW.length = G * 3 := by
    rw [hROW, Array.length_toList, Array.size_append, Array.size_append, zero_size, zero_size, List.size_toArray, List.length_take]; omega
  have hRt : ROW.take (i * 3) = (flat l).take (i * 3) := by
    rw [hROW, Array.toList_append, Array.toList_append, List.append_assoc, List.take_append_of_le_length (by simp; omega), List.take_of_length_le (by simp; omega)]
  have hrz : ∀ ty, (Builtin.append_ #[22, 3] ty #[.slice (some ⟨g, 0, none⟩) i c, .int .i64 ((c : Int) + 1 - (i : Int))]).run Tryz.prog w = .ok (.slice (some ⟨w.heap.size, 0, none⟩) (c + 1) G) (w.drew.alloc (.cells ROW.toArray 24)) := fun ty => by
    have h := Lib.run_append_grow_zeros w 22 3 ty 24 i0 _ .i64 .i64 Tryz.underlying22 Tryz.underlying3 hi0 hz0 (some ⟨g, 0, none⟩) i c ((flat l).take (i * 3)) hold (c + 1 - i) (by omega) (by omega) (by omega) (by omega) (by rw [hzb]; omega) (by rw [hzb]; exact growslice_fits (by omega) (by omega))
    rw [show i + (c + 1 - i) = c + 1 from by omega, ← hG] at h
    rw [show (c : Int) + 1 - (i : Int) = ((c + 1 - i : Nat) : Int) from by omega, hROW, Array.toArray_toList]
    exact h
  obtain ⟨F, hF⟩ : ∃ F : List Value, F = (flat l).drop (i * 3) := ⟨_, rfl⟩
  have hFl : F.length = (c - i) * 3 := by rw [hF, List.length_drop]; omega
  obtain ⟨R1, hR1⟩ : ∃ R1 : List Value, R1 = splice ROW (i * 3) (entCells e) := ⟨_, rfl⟩
  obtain ⟨R2, hR2⟩ : ∃ R2 : List Value, R2 = splice R1 ((i + 1) * 3) F := ⟨_, rfl⟩
  have hR1l : R1.length = G * 3 := by rw [hR1, length_splice _ _ _ (by rw [hRl]; show i * 3 + 3 ≤ _; omega), hRl]
  have hR2l : R2.length = G * 3 := by rw [hR2, length_splice _ _ _ (by rw [hR1l, hFl]; omega), hR1l]
  obtain ⟨N, hN⟩ : ∃ N, N = w.heap.size := ⟨_, rfl⟩
  obtain ⟨W1, hW1⟩ : ∃ W1 : World, W1 = w.drew.alloc (.cells ROW.toArray 24) := ⟨_, rfl⟩
  have hbN : Blk W1 N 24 ROW.toArray := by rw [hW1, hN]; exact Blk.new w.drew _ _
  have hb0 : Below B w W1 := by rw [hW1]; exact (Below.refl _ _).drew.alloc hB _
  have hbg : Blk W1 g 24 cur.toArray := by rw [hW1]; exact HG.out.drew.alloc _
  have hbv : Blk W1 vb 24 #[str e.1, byteV e.2.1, str e.2.2] := by rw [hW1]; exact HV.out.drew.alloc _
  have hgN : g ≠ N := by omega
  have hvN : vb ≠ N := by omega
  have hcp1 : ∀ ty, (Builtin.copy_ #[22, 22] ty #[.slice (some ⟨N, i * 3, none⟩) (c + 1 - i) (G - i), .slice (some ⟨vb, 0, none⟩) 1 vc]).run Tryz.prog W1 = .ok (goInt ((1 : Nat) : Int)) (W1.setRow N R1.toArray) := fun ty => by
    rw [hR1]
    exact run_copy_rowK _ _ _ ty 24 N (i * 3) (c + 1 - i) (G - i) ⟨vb, 0, none⟩ 1 vc ROW 24 (entCells e) 1 3 Tryz.underlying22 sizeEnt hbN (by simp only [Nat.min_def]; split <;> omega) rfl
      (fun j v hj => by rw [addr_add, Nat.zero_add, hbv.cell j]; simpa using hj) (by rw [hRl]; show i * 3 + 3 ≤ _; omega) (fun v hv => by
        simp only [entCells, List.mem_cons, List.not_mem_nil, or_false] at hv
        rcases hv with rfl | rfl | rfl <;> rfl)
  have hb1 : Blk (W1.setRow N R1.toArray).drew N 24 R1.toArray := setRow_heap W1 N ROW.toArray _ 24 _ hbN
  have hg1 : Blk (W1.setRow N R1.toArray).drew g 24 cur.toArray := (setRow_other W1 N g _ hgN).trans hbg
  have hcp2 : ∀ ty, (Builtin.copy_ #[22, 22] ty #[.slice (some ⟨N, (i + 1) * 3, none⟩) (c - i) (G - (i + 1)), .slice (some ⟨g, i * 3, none⟩) (c - i) (c - i)]).run Tryz.prog (W1.setRow N R1.toArray).drew = .ok (goInt ((c - i : Nat) : Int)) ((W1.setRow N R1.toArray).drew.setRow N R2.toArray) := fun ty => by
    rw [hR2]
    exact run_copy_rowK _ _ _ ty 24 N ((i + 1) * 3) (c - i) (G - (i + 1)) ⟨g, i * 3, none⟩ (c - i) (c - i) R1 24 F (c - i) 3 Tryz.underlying22 sizeEnt hb1 (by simp only [Nat.min_def]; split <;> omega) hFl
      (fun j v hj => by
        rw [addr_add, hg1.cell (i * 3 + j)]
        rw [hF, List.getElem?_drop, ← HROW.out, List.getElem?_take] at hj
        split at hj
        · simpa using hj
        · cases hj) (by rw [hR1l, hFl]; omega) (fun v hv => flat_one l v (by rw [hF] at hv; exact List.mem_of_mem_drop hv))
  have HEND : Hid (((W1.setRow N R1.toArray).drew.setRow N R2.toArray).ownsRow B 24 3 (.slice (some ⟨N, 0, none⟩) (c + 1) G) (c + 1) (flat (l.take i ++ e :: l.drop i)) ∧ Below B w ((W1.setRow N R1.toArray).drew.setRow N R2.toArray)) := by
    have hb2 : Blk ((W1.setRow N R1.toArray).drew.setRow N R2.toArray) N 24 R2.toArray := setRow_heap _ N R1.toArray _ 24 _ hb1
    have hrow : R2.take ((c + 1) * 3) = flat (l.take i ++ e :: l.drop i) := by
      rw [← flat_put, hR2, hR1, hF]
      exact grow_row hi (by rw [hRl]; omega) hRt hfl rfl
    refine ⟨⟨?_, .inr ⟨N, G, R2.toArray, rfl, by omega, hb2, hGn, hG63, by simp [hR2l], by simpa using hrow⟩⟩, ?_⟩
    · rw [flat_length]; simp; have := HN.out; omega
    · exact below_row (below_row hb0 (by omega) _).drew (by omega) _
  rw [← hN] at hrz ⊢
  rw [← hW1] at hrz
  have hst : Below B w (W1.setRow N R1.toArray).drew := (below_row hb0 (by omega) _).drew
  have hr0 := Lib.hid hrz; have hcq1 := Lib.hid hcp1; have hcq2 := Lib.hid hcp2
  unfold maxLen at hG63
  clear hrz hcp1 hcp2 hb1 hg1 hF hR1 hR2 hFl hR1l hR2l hRl hRt hROW hold hcell hfl hbN hb0 hbg hbv hW1 hG hN
  have h1 : (i : Int) ≤ (c : Int) := by omega
  have h2 : ((i : Int) == (c : Int)) = false := by rw [beq_eq_false_iff_ne]; omega
  have h3 : (c : Int) < (c : Int) + 1 := by omega
  have h4 : ¬ c = i := by omega
  have h5 : ¬ G = i := by omega
  have h5b : ¬ G = i + 1 := by omega
  have h6 : (0 : Int) ≤ (i : Int) + 1 := by omega
  have h7 : (i : Int) + 1 ≤ (c : Int) + 1 := by omega
  have h8 : (i : Int) ≤ (c : Int) + 1 := by omega
  have hwi := Lib.hid (IntWalk.i64_in ((i : Int) + 1) (by omega))
  have hz1 := hcq1.out 3
  go_enter Tryz.func45, Tryz.ntmps45
  go_wp2_with (at_builtin; refine Lib.wpList_append_run _ rfl _ _ _ _ rfl _ _ rfl rfl _ _ (hr0.out _) ?_)
  refine wp_region_held_drew (S := fun W => Below B w W) (by kernel_rfl) (by exact hst) (fun hHeld => ?_)
  refine wpAnyH_take (i := 0) (oi := { dst := some 46, op := Op.move (Operand.tmp 9), type := 22, pos := "slices.go:154", after := #[], guard := none }) (v := ?v2_0) (by kernel_rfl) (by kernel_rfl) (by kernel_rfl) (by kernel_rfl) (fun _ _ _ h => h) (Or.inl ⟨by kernel_rfl, ?h2_0⟩) hHeld ?r2_0
  case h2_0 => (intro w hSw; (try dsimp only at hSw); go_simp; try with_reducible rfl)
  try simp only [Act.put, List.setIfInBounds_toArray, List.set_cons_zero, List.set_cons_succ]
  refine wpAnyH_take (i := 1) (oi := { dst := some 47, op := Op.move (Operand.tmp 1), type := 3, pos := "slices.go:154", after := #[], guard := none }) (v := ?v2_1) (by kernel_rfl) (by kernel_rfl) (by kernel_rfl) (by kernel_rfl) (fun _ _ _ h => h) (Or.inl ⟨by kernel_rfl, ?h2_1⟩) hHeld ?r2_1
  case h2_1 => (intro w hSw; (try dsimp only at hSw); go_simp; try with_reducible rfl)
  try simp only [Act.put, List.setIfInBounds_toArray, List.set_cons_zero, List.set_cons_succ]
  refine wpAnyH_take (i := 2) (oi := { dst := some 48, op := Op.move (Operand.tmp 7), type := 3, pos := "slices.go:154", after := #[], guard := none }) (v := ?v2_2) (by kernel_rfl) (by kernel_rfl) (by kernel_rfl) (by kernel_rfl) (fun _ _ _ h => h) (Or.inl ⟨by kernel_rfl, ?h2_2⟩) hHeld ?r2_2
  case h2_2 => (intro w hSw; (try dsimp only at hSw); go_simp; try with_reducible rfl)
  try simp only [Act.put, List.setIfInBounds_toArray, List.set_cons_zero, List.set_cons_succ]
  refine wpAnyH_take (i := 3) (oi := { dst := some 49, op := Op.binOp BinOp.add 3 (Operand.tmp 47) (Operand.tmp 48) 3, type := 3, pos := "slices.go:154", after := #[{ on := 1, ground := Ground.data }, { on := 2, ground := Ground.data }], guard := none }) (v := ?v2_3) (by kernel_rfl) (by kernel_rfl) (by kernel_rfl) (by kernel_rfl) (fun _ _ _ h => h) (Or.inl ⟨by kernel_rfl, ?h2_3⟩) hHeld ?r2_3
  case h2_3 => (intro w hSw; (try dsimp only at hSw); go_simp; rw [hwi.out])
  try simp only [Act.put, List.setIfInBounds_toArray, List.set_cons_zero, List.set_cons_succ]
  refine wpAnyH_take (i := 4) (oi := { dst := some 50, op := Op.slice 22 (Operand.tmp 46) (some (Operand.tmp 49)) none none, type := 22, pos := "slices.go:154", after := #[{ on := 0, ground := Ground.data }, { on := 3, ground := Ground.data }], guard := none }) (v := ?v2_4) (by kernel_rfl) (by kernel_rfl) (by kernel_rfl) (by kernel_rfl) (fun _ _ _ h => h) (Or.inl ⟨by kernel_rfl, ?h2_4⟩) hHeld ?r2_4
  case h2_4 => (intro w hSw; (try dsimp only at hSw); go_simp; try with_reducible rfl)
  try simp only [Act.put, List.setIfInBounds_toArray, List.set_cons_zero, List.set_cons_succ]
  refine wpAnyH_take (i := 5) (oi := { dst := some 51, op := Op.move (Operand.tmp 0), type := 22, pos := "slices.go:154", after := #[], guard := none }) (v := ?v2_5) (by kernel_rfl) (by kernel_rfl) (by kernel_rfl) (by kernel_rfl) (fun _ _ _ h => h) (Or.inl ⟨by kernel_rfl, ?h2_5⟩) hHeld ?r2_5
  case h2_5 => (intro w hSw; (try dsimp only at hSw); go_simp; try with_reducible rfl)
  try simp only [Act.put, List.setIfInBounds_toArray, List.set_cons_zero, List.set_cons_succ]
  refine wpAnyH_take (i := 6) (oi := { dst := some 52, op := Op.move (Operand.tmp 1), type := 3, pos := "slices.go:154", after := #[], guard := none }) (v := ?v2_6) (by kernel_rfl) (by kernel_rfl) (by kernel_rfl) (by kernel_rfl) (fun _ _ _ h => h) (Or.inl ⟨by kernel_rfl, ?h2_6⟩) hHeld ?r2_6
  case h2_6 => (intro w hSw; (try dsimp only at hSw); go_simp; try with_reducible rfl)
  try simp only [Act.put, List.setIfInBounds_toArray, List.set_cons_zero, List.set_cons_succ]
  refine wpAnyH_take (i := 7) (oi := { dst := some 53, op := Op.slice 22 (Operand.tmp 51) (some (Operand.tmp 52)) none none, type := 22, pos := "slices.go:154", after := #[{ on := 5, ground := Ground.data }, { on := 6, ground := Ground.data }], guard := none }) (v := ?v2_7) (by kernel_rfl) (by kernel_rfl) (by kernel_rfl) (by kernel_rfl) (fun _ _ _ h => h) (Or.inl ⟨by kernel_rfl, ?h2_7⟩) hHeld ?r2_7
  case h2_7 => (intro w hSw; (try dsimp only at hSw); go_simp; try with_reducible rfl)
  try simp only [Act.put, List.setIfInBounds_toArray, List.set_cons_zero, List.set_cons_succ]
  refine wpAnyH_ready (rs := [8]) (by kernel_rfl) (by simp) ?_
  refine AllReadyH.cons (i := 8) (o := { dst := some 54, op := Op.call { callee := Callee.builtin Builtin.copy, args := #[Operand.tmp 50, Operand.tmp 53], argTypes := #[22, 22] }, type := 3, pos := "slices.go:154", after := #[{ on := 4, ground := Ground.data }, { on := 7, ground := Ground.data }], guard := none }) rfl (fun K hK => ?_) AllReadyH.nil
  refine step_copy_eq rfl _ _ 22 22 rfl _ _ (by rfl) (by rfl) (hcq2.out _) ?_
  have hKeep := HEND.out.2
  refine hK.out _ _ (by exact hKeep) (fun hHeld => ?_)
  clear hK K
  try simp only [Act.put, List.setIfInBounds_toArray, List.set_cons_zero, List.set_cons_succ]
  refine wpAnyH_done (by kernel_rfl) ?_ _
  go_wp2_with fail
  go_ret
  exact ⟨G, rfl, HEND.out⟩
set_option maxRecDepth 100000 in
set_option maxHeartbeats 800000 in
theorem insE_end (l : List Ent) (e : Ent) (A : Option Addr) (c vb vc B : Nat) (w : World) (hl : l.length ≤ 1048576) (hlc : l.length ≤ c) (hc63 : c ≤ maxLen) (hown : w.ownsRow B 24 3 (.slice A l.length c) l.length (flat l)) (hv : Blk w vb 24 #[str e.1, byteV e.2.1, str e.2.2]) (hB : B ≤ w.heap.size) :
    Calls Tryz.prog 45 #[.slice A l.length c, .int .i64 l.length, .slice (some ⟨vb, 0, none⟩) 1 vc] w fun e' w' =>
      ∃ v, e' = .returned v ∧ w'.ownsRow B 24 3 v (l.length + 1) (flat (l ++ [e])) ∧ Below B w w' := by
  obtain ⟨i0, hi0, hz0, hzs, hzb⟩ := info_parts infoEnt
  unfold maxLen at hc63
  have HE := Lib.hid (flat_app l [e])
  have HO := Lib.hid hown
  have HV := Lib.hid hv
  have hnews : ∀ j u, (entCells e)[j]? = some u → w.cell? ((⟨vb, 0, none⟩ : Addr).add j) = some u := fun j u hj => by
    rw [addr_add, Nat.zero_add, HV.out.cell j]; simpa using hj
  have HNW := Lib.hid hnews
  clear hown hv hnews
  by_cases hcn : c = l.length
  all_goals try subst hcn
  all_goals
    go_enter Tryz.func45, Tryz.ntmps45
    go_wp2_with (at_builtin; refine wpList_append_own _ rfl _ _ 22 rfl B 24 i0 (.agg #[.string ⟨#[]⟩, .int .u8 0, .string ⟨#[]⟩]) 3 40 Tryz.underlying22 hi0 hz0 hzs hzb rfl (by decide) _ _ _ rfl (HO.out) ⟨vb, 0, none⟩ 1 vc (entCells e) rfl rfl (HNW.out) ?b1 ?c1 ?d1 hB ?_)
    case b1 => exact ent_one e
    case c1 => (unfold maxLen; omega)
    case d1 => omega
    intro v1 w1 hown1 hg1 _
    have HB := Lib.hid ((Below.refl B w).grown hg1 hB (own_geE (HO.out)))
    have H1 := Lib.hid hown1
    clear hg1 hown1
    go_wp2_with fail
    go_ret
    exact ⟨v1, rfl, by rw [HE.out]; exact H1.out, HB.out⟩
theorem insertE_any (l : List Ent) (e : Ent) (i : Nat) (v0 : Value) (vb vc B : Nat) (w : World) (hi : i ≤ l.length) (hl : l.length ≤ 1048576) (hown : w.ownsRow B 24 3 v0 l.length (flat l)) (hv : Blk w vb 24 #[str e.1, byteV e.2.1, str e.2.2]) (hne : v0.ownBlock ≠ some vb) (hB : B ≤ w.heap.size) :
    Calls Tryz.prog 45 #[v0, .int .i64 i, .slice (some ⟨vb, 0, none⟩) 1 vc] w fun e' w' =>
      ∃ v, e' = .returned v ∧ w'.ownsRow B 24 3 v (l.length + 1) (flat (l.take i ++ e :: l.drop i)) ∧ Below B w w' := by
  rcases Nat.lt_or_ge i l.length with hlt | hge
  · rcases hown.2 with ⟨-, h0⟩ | ⟨g, cap, cur, rfl, hg, hh, hnc, hcm, hsz, hrow⟩
    · omega
    · have hvg : vb ≠ g := fun h => hne (by rw [h]; rfl)
      rcases Nat.lt_or_ge cap (l.length + 1) with hc | hc
      · refine (insE_grow l e g cap i vb vc B cur.toList w hlt hl hnc hc (by simpa [Blk] using hh) (by simpa using hsz) hrow hv hB).mono ?_
        rintro e' w' ⟨G, h1, h2, h3⟩
        exact ⟨_, h1, h2, h3⟩
      · refine (insE_room l e g cap i vb vc B cur.toList w hlt hc hcm (by simpa [Blk] using hh) (by simpa using hsz) hrow hv hvg hg).mono ?_
        rintro e' w' ⟨h1, h2, h3⟩
        exact ⟨_, h1, h2, h3⟩
  · obtain rfl : i = l.length := by omega
    rw [List.take_length, List.drop_length]
    rcases hown.2 with ⟨rfl, h0⟩ | ⟨g, cap, cur, rfl, hg, hh, hnc, hcm, hsz, hrow⟩
    · have h := insE_end l e none 0 vb vc B w hl (by omega) (by unfold maxLen; omega) (by rw [h0] at hown ⊢; exact hown) hv hB
      rw [h0] at h
      rw [h0]
      exact h
    · exact insE_end l e _ cap vb vc B w hl hnc hcm hown hv hB
end Go.Proofs.YtbbgieopcmjoeaaGreatDoor
