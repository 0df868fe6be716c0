/- package words: adding an entry to a lexicon. -/
import Derived.Test.YtbbgieopcmjoeaaGreatDoorAddA
import Derived.Test.YtbbgieopcmjoeaaGreatDoorInsE
namespace Go.Proofs.YtbbgieopcmjoeaaGreatDoor
open Go.RowKit
def addR (l : List Ent) (e : Ent) : List Ent × Int :=
  if validL l && rightL e then
    if atL l e < l.length ∧ cmpL (l.getD (atL l e) ([], 0, [])) e = 0 then ([], 330)
    else if (l.any fun o => clashL o e) = true then ([], 331)
    else if l.length = 100 then ([], 5)
    else (l.take (atL l e) ++ e :: l.drop (atL l e), 0)
  else ([], 2)
/-- A lexicon in memory of the call's own, and an error. -/
def OwnPost (w : World) (ls : List Ent) (er : Int) (e : Ending) (w' : World) : Prop :=
  ∃ A c, e = .returned (.tuple #[.slice A ls.length c, .int .i64 er]) ∧ ls.length ≤ c ∧ w'.ownsRow w.heap.size 24 3 (.slice A ls.length c) ls.length (flat ls) ∧ Below w.heap.size w w'
theorem OwnPost.none_ {w w' : World} (er : Int) (h : Below w.heap.size w w') : OwnPost w [] er (.returned (.tuple #[.slice none 0 0, .int .i64 er])) w' := ⟨none, 0, rfl, Nat.le_refl _, World.ownsRow_nil _ _ _ _, h⟩
theorem own_less {w : World} {B B' e size n : Nat} {v : Value} {xs : List Value} (h : w.ownsRow B e size v n xs) (hB : B' ≤ B) : w.ownsRow B' e size v n xs := by
  rcases h with ⟨h1, h2 | ⟨g, cap, cur, e1, e2, e3⟩⟩
  · exact ⟨h1, .inl h2⟩
  · exact ⟨h1, .inr ⟨g, cap, cur, e1, Nat.le_trans hB e2, e3⟩⟩
theorem own_ltE {W : World} {base e size n : Nat} {v : Value} {xs : List Value} (h : W.ownsRow base e size v n xs) : ∀ k, v.ownBlock = some k → k < W.heap.size := by
  intro k hk
  rcases h.2 with ⟨rfl, _⟩ | ⟨g, cap, cur, rfl, _, hg, _⟩
  · simp [Value.ownBlock] at hk
  · have : g = k := by simpa [Value.ownBlock] using hk
    subst this
    exact (Array.getElem?_eq_some_iff.1 hg).1
theorem contains_add2 (l : List Ent) (e : Ent) (A : Option Addr) (c B : Nat) (w : World) (hm : l.length ≤ 140737488355328) (hr : Reads w w.heap.size 3 A l.length (flat l)) (hB : B < w.heap.size)
    (h0 : w.cell? ⟨B, 0, none⟩ = some (str e.1)) (h1 : w.cell? ⟨B, 1, none⟩ = some (byteV e.2.1)) (h2 : w.cell? ⟨B, 2, none⟩ = some (str e.2.2)) :
    Calls Tryz.prog 42 #[.slice A l.length c, .func (.func 43) #[] #[.pointer (some ⟨B, 0, none⟩)]] w fun e' w' => e' = .returned (.bool (l.any fun o => clashL o e)) ∧ Below w.heap.size w w' := by
  have hp : Pred 43 [.pointer (some ⟨B, 0, none⟩)] (argE (flat l)) l.length (fun i => clashL (l.getD i ([], 0, [])) e) w := fun i hi W hb => by
    rw [flat_arg l i hi]
    have e1 : l.getD i ([], 0, []) = l[i] := by simp [hi]
    simp only [e1]
    exact add2_any l[i] e B W (Nat.lt_of_lt_of_le hB hb.size) ((hb.cell (p := ⟨B, 0, none⟩) hB).trans h0) ((hb.cell (p := ⟨B, 1, none⟩) hB).trans h1) ((hb.cell (p := ⟨B, 2, none⟩) hB).trans h2)
  have h := containsFunc_ent A l.length c (flat l) 43 enters_add2 [.pointer (some ⟨B, 0, none⟩)] _ w hm hr hp
  rw [anyIdx_list (fun o => clashL o e) l _ (fun i hi => by simp [hi])] at h
  exact h
theorem put_length (l : List Ent) (e : Ent) (k : Nat) (hk : k ≤ l.length) : (l.take k ++ e :: l.drop k).length = l.length + 1 := by simp; omega
theorem own_put {w : World} {B e' : Nat} {v : Value} {l : List Ent} {xs : List Value} (h : w.ownsRow B e' 3 v (l.length + 1) xs) :
    ∃ A c, v = .slice A (l.length + 1) c ∧ l.length + 1 ≤ c ∧ w.ownsRow B e' 3 (.slice A (l.length + 1) c) (l.length + 1) xs := by
  obtain ⟨A, c, rfl, hc⟩ := own_form h
  exact ⟨A, c, rfl, hc, h⟩
theorem ok_post {w w' : World} {l : List Ent} {e : Ent} {k : Nat} {A : Option Addr} {c : Nat} (hk : k ≤ l.length) (hc : l.length + 1 ≤ c) (ho : w'.ownsRow w.heap.size 24 3 (.slice A (l.length + 1) c) (l.length + 1) (flat (l.take k ++ e :: l.drop k))) (hb : Below w.heap.size w w') :
    OwnPost w (l.take k ++ e :: l.drop k) 0 (.returned (.tuple #[.slice A (l.length + 1) c, .int .i64 0])) w' := by
  rw [← put_length l e k hk] at ho hc ⊢
  exact ⟨A, c, rfl, hc, ho, hb⟩
theorem box_cells {W : World} {b : Nat} {x : List UInt8} {c : UInt8} {y : List UInt8} (h : Blk W b 24 #[str x, byteV c, str y]) : W.cell? ⟨b, 0, none⟩ = some (str x) ∧ W.cell? ⟨b, 1, none⟩ = some (byteV c) ∧ W.cell? ⟨b, 2, none⟩ = some (str y) := ⟨h.cell 0, h.cell 1, h.cell 2⟩
set_option maxRecDepth 100000 in
set_option maxHeartbeats 3200000 in
theorem add_twice (l : List Ent) (ex : List UInt8) (ec : UInt8) (esy : List UInt8) (A : Option Addr) (c : Nat) (w : World) (hl : l.length ≤ 100) (hw : ∀ x ∈ l, x.1.length ≤ 1048576) (hc : l.length ≤ c) (hr : Reads w w.heap.size 3 A l.length (flat l)) (hx : ex.length ≤ 1048576) (hv : validL l = true) (hrt : rightL (ex, ec, esy) = true) (hat : atL l (ex, ec, esy) < l.length) (hcm : cmpL (l.getD (atL l (ex, ec, esy)) ([], 0, [])) (ex, ec, esy) = 0) :
    Calls Tryz.prog 13 #[.slice A l.length c, entV (ex, ec, esy)] w (OwnPost w (addR l (ex, ec, esy)).1 (addR l (ex, ec, esy)).2) := by
  have HXX := Lib.hid (show addR l (ex, ec, esy) = ([], 330) by unfold addR; rw [if_pos (by rw [hv, hrt]; rfl), if_pos ⟨hat, hcm⟩])
  generalize hR : addR l (ex, ec, esy) = R at HXX ⊢
  clear hR
  have HRD := Lib.hid hr; clear hr
  have HW := Lib.hid hw; clear hw
  have HV := Lib.hid hv; have HT := Lib.hid hrt; clear hv hrt
  have hbox : Hid (∀ W : World, W = w.alloc (.cells #[str ex, byteV ec, str esy] 24) → Blk W w.heap.size 24 #[str ex, byteV ec, str esy] ∧ Below w.heap.size w W) := fun W h => by subst h; exact ⟨Blk.new _ _ _, (Below.refl _ _).alloc (Nat.le_refl _) _⟩
  have hatl : atL l (ex, ec, esy) ≤ l.length := firstIdx_le _ _
  have HFG := Lib.hid (fun W hr hB h0 h1 h2 => find_ge l (ex, ec, esy) A c w.heap.size W (by omega) hr hB h0 h1 h2)
  generalize atL l (ex, ec, esy) = at_ at *
  go_enter Tryz.func13, Tryz.ntmps13
  go_wp2_with fail
  obtain ⟨W1, hW1⟩ : ∃ W1 : World, W1 = w.alloc (.cells #[str ex, byteV ec, str esy] 24) := ⟨_, rfl⟩
  obtain ⟨hbk, hb1⟩ := hbox.out W1 hW1
  rw [← hW1]
  clear hW1
  have hB0 : w.heap.size < W1.heap.size := hbk.lt
  obtain ⟨B0, hB00⟩ : ∃ B0, B0 = w.heap.size := ⟨_, rfl⟩
  go_at_call 39; refine ((HFG.out) W1 ((HRD.out).later hb1) hbk.lt (hbk.cell 0) (hbk.cell 1) (hbk.cell 2)).mono ?_; rintro e' w2 ⟨rfl, hb2⟩
  have hbk2 := hbk.later hb2
  replace hb1 := below_then hb1 hb2; clear hb2 hbk
  go_wp2_with fail
  go_at_call 17; refine (valid_any l A c _ (fun x h => by have := HW.out x h; omega) hc ((HRD.out).later hb1)).mono ?_; rintro e' w3 ⟨rfl, hb3⟩; rw [HV.out]
  have hbk3 := hbk2.later hb3
  replace hb1 := below_then hb1 hb3; clear hb3 hbk2
  obtain ⟨k0, k1, k2⟩ := box_cells hbk3
  go_wp2_with fail
  go_at_call 24; refine (right_any ex ec esy _ (by omega)).mono ?_; rintro e' w4 ⟨rfl, hb4⟩; rw [HT.out]
  have hbk4 := hbk3.later hb4
  replace hb1 := below_then hb1 hb4; clear hb4 hbk3 k0 k1 k2
  obtain ⟨k0, k1, k2⟩ := box_cells hbk4
  have hz4 := hbk4.lt
  go_wp2_with fail
  obtain ⟨b, off, hA, hBq, q0, q1, q2⟩ := ((HRD.out).later hb1).ent (k := at_) hat
  cases hA
  have hqd : l.getD at_ ([], 0, []) = l[at_] := by simp [hat]
  rw [hqd] at hcm
  clear hqd
  generalize l[at_] = q at q0 q1 q2 hcm
  obtain ⟨qx, qc, qy⟩ := q
  have hS6 : S6 w4 w4 w.heap.size (ex, ec, esy) b (off + at_ * 3) (qx, qc, qy) := ⟨k0, k1, k2, hz4, Below.refl _ _, q0, q1, q2, hBq⟩
  have hi1 : (at_ : Int) < (l.length : Int) := by omega
  refine wp_region_held_drew (S := fun W => S6 w4 W w.heap.size (ex, ec, esy) b (off + at_ * 3) (qx, qc, qy)) (by kernel_rfl) (by exact start6 hS6) (fun hHeld => ?_)
  refine wpAnyH_take (i := 0) (oi := { dst := some 20, op := Op.move (Operand.tmp 6), type := 3, pos := "words.go:157", after := #[], guard := none }) (v := ?v1_0) (by kernel_rfl) (by kernel_rfl) (by kernel_rfl) (by kernel_rfl) (fun _ _ _ h => h) (Or.inl ⟨by kernel_rfl, ?h1_0⟩) hHeld ?r1_0
  case h1_0 => (intro w hSw; (try dsimp only at hSw); go_simp; try with_reducible rfl)
  try simp only [Act.put, List.setIfInBounds_toArray, List.set_cons_zero, List.set_cons_succ]
  refine wpAnyH_take (i := 1) (oi := { dst := some 21, op := Op.move (Operand.tmp 0), type := 22, pos := "words.go:157", after := #[], guard := none }) (v := ?v1_1) (by kernel_rfl) (by kernel_rfl) (by kernel_rfl) (by kernel_rfl) (fun _ _ _ h => h) (Or.inl ⟨by kernel_rfl, ?h1_1⟩) hHeld ?r1_1
  case h1_1 => (intro w hSw; (try dsimp only at hSw); go_simp; try with_reducible rfl)
  try simp only [Act.put, List.setIfInBounds_toArray, List.set_cons_zero, List.set_cons_succ]
  refine wpAnyH_take (i := 2) (oi := { dst := some 22, op := Op.call { callee := Callee.builtin Builtin.len, args := #[Operand.tmp 21], argTypes := #[22] }, type := 3, pos := "words.go:157", after := #[{ on := 1, ground := Ground.data }], guard := none }) (v := ?v1_2) (by kernel_rfl) (by kernel_rfl) (by kernel_rfl) (by kernel_rfl) (fun _ _ _ h => h) (Or.inl ⟨by kernel_rfl, ?h1_2⟩) hHeld ?r1_2
  case h1_2 => (intro w hSw; (try dsimp only at hSw); go_simp; try with_reducible rfl)
  try simp only [Act.put, List.setIfInBounds_toArray, List.set_cons_zero, List.set_cons_succ]
  refine wpAnyH_take (i := 3) (oi := { dst := some 23, op := Op.binOp BinOp.lss 3 (Operand.tmp 20) (Operand.tmp 22) 3, type := 4, pos := "words.go:157", after := #[{ on := 0, ground := Ground.data }, { on := 2, ground := Ground.data }], guard := none }) (v := ?v1_3) (by kernel_rfl) (by kernel_rfl) (by kernel_rfl) (by kernel_rfl) (fun _ _ _ h => h) (Or.inl ⟨by kernel_rfl, ?h1_3⟩) hHeld ?r1_3
  case h1_3 => (intro w hSw; (try dsimp only at hSw); go_simp; try with_reducible rfl)
  try simp only [Act.put, List.setIfInBounds_toArray, List.set_cons_zero, List.set_cons_succ]
  refine wpAnyH_take (i := 4) (oi := { dst := some 24, op := Op.move (Operand.tmp 23), type := 4, pos := "words.go:157", after := #[{ on := 3, ground := Ground.data }], guard := none }) (v := ?v1_4) (by kernel_rfl) (by kernel_rfl) (by kernel_rfl) (by kernel_rfl) (fun _ _ _ h => h) (Or.inl ⟨by kernel_rfl, ?h1_4⟩) hHeld ?r1_4
  case h1_4 => (intro w hSw; (try dsimp only at hSw); go_simp; try with_reducible rfl)
  try simp only [Act.put, List.setIfInBounds_toArray, List.set_cons_zero, List.set_cons_succ]
  refine wpAnyH_take (i := 5) (oi := { dst := some 25, op := Op.move (Operand.tmp 0), type := 22, pos := "words.go:157", after := #[{ on := 4, ground := Ground.guard }], guard := some (4, true) }) (v := ?v1_5) (by kernel_rfl) (by kernel_rfl) (by kernel_rfl) (by kernel_rfl) (fun _ _ _ h => h) (Or.inl ⟨by kernel_rfl, ?h1_5⟩) hHeld ?r1_5
  case h1_5 => (intro w hSw; (try dsimp only at hSw); go_simp; try with_reducible rfl)
  try simp only [Act.put, List.setIfInBounds_toArray, List.set_cons_zero, List.set_cons_succ]
  refine wpAnyH_take (i := 6) (oi := { dst := some 26, op := Op.move (Operand.tmp 6), type := 3, pos := "words.go:157", after := #[{ on := 4, ground := Ground.guard }], guard := some (4, true) }) (v := ?v1_6) (by kernel_rfl) (by kernel_rfl) (by kernel_rfl) (by kernel_rfl) (fun _ _ _ h => h) (Or.inl ⟨by kernel_rfl, ?h1_6⟩) hHeld ?r1_6
  case h1_6 => (intro w hSw; (try dsimp only at hSw); go_simp; try with_reducible rfl)
  try simp only [Act.put, List.setIfInBounds_toArray, List.set_cons_zero, List.set_cons_succ]
  refine wpAnyH_take (i := 7) (oi := { dst := some 27, op := Op.indexAddr 22 (Operand.tmp 25) (Operand.tmp 26), type := 0, pos := "words.go:157", after := #[{ on := 5, ground := Ground.data }, { on := 6, ground := Ground.data }, { on := 4, ground := Ground.guard }], guard := some (4, true) }) (v := ?v1_7) (by kernel_rfl) (by kernel_rfl) (by kernel_rfl) (by kernel_rfl) (fun _ _ _ h => h) (Or.inl ⟨by kernel_rfl, ?h1_7⟩) hHeld ?r1_7
  case h1_7 => (intro w hSw; (try dsimp only at hSw); go_simp; try with_reducible rfl)
  try simp only [Act.put, List.setIfInBounds_toArray, List.set_cons_zero, List.set_cons_succ]
  refine wpAnyH_take (i := 8) (oi := { dst := some 28, op := Op.load 24 (Operand.tmp 27), type := 24, pos := "words.go:157", after := #[{ on := 7, ground := Ground.data }, { on := 4, ground := Ground.guard }], guard := some (4, true) }) (v := ?v1_8) (by kernel_rfl) (by kernel_rfl) (by kernel_rfl) (by kernel_rfl) (fun _ _ _ h => h) (Or.inl ⟨by kernel_rfl, ?h1_8⟩) hHeld ?r1_8
  case h1_8 => (intro w hSw; (try dsimp only at hSw); go_simp; try with_reducible rfl)
  try simp only [Act.put, List.setIfInBounds_toArray, List.set_cons_zero, List.set_cons_succ]
  refine wpAnyH_take (i := 9) (oi := { dst := some 29, op := Op.load 24 (Operand.tmp 3), type := 24, pos := "words.go:157", after := #[{ on := 4, ground := Ground.guard }], guard := some (4, true) }) (v := ?v1_9) (by kernel_rfl) (by kernel_rfl) (by kernel_rfl) (by kernel_rfl) (fun _ _ _ h => h) (Or.inl ⟨by kernel_rfl, ?h1_9⟩) hHeld ?r1_9
  case h1_9 => (intro w hSw; (try dsimp only at hSw); go_simp; try with_reducible rfl)
  try simp only [Act.put, List.setIfInBounds_toArray, List.set_cons_zero, List.set_cons_succ]
  refine wpAnyH_ready (rs := [10]) (by kernel_rfl) (by simp) ?_
  refine AllReadyH.cons (i := 10) (o := { dst := some 30, op := Op.call { callee := Callee.value (Operand.func 41), args := #[Operand.tmp 28, Operand.tmp 29], argTypes := #[24, 24] }, type := 3, pos := "words.go:157", after := #[{ on := 8, ground := Ground.data }, { on := 9, ground := Ground.data }, { on := 4, ground := Ground.chain }, { on := 4, ground := Ground.guard }], guard := some (4, true) }) rfl (fun K hK => ?_) AllReadyH.nil
  go_simp
  refine (compare_any (qx, qc, qy) (ex, ec, esy) _).mono ?_
  rintro e' w5 ⟨rfl, hb5⟩
  go_wp2_with fail
  refine hK.out _ _ (by exact keep6 (by assumption) (by assumption)) (fun hHeld => ?_)
  clear hK K
  try simp only [Act.put, List.setIfInBounds_toArray, List.set_cons_zero, List.set_cons_succ]
  refine wpAnyH_take (i := 11) (oi := { dst := some 31, op := Op.binOp BinOp.eql 3 (Operand.tmp 30) (Operand.const (Value.int IntKind.i64 0)) 3, type := 4, pos := "words.go:157", after := #[{ on := 10, ground := Ground.data }, { on := 4, ground := Ground.guard }], guard := some (4, true) }) (v := ?v1_11) (by kernel_rfl) (by kernel_rfl) (by kernel_rfl) (by kernel_rfl) (fun _ _ _ h => h) (Or.inl ⟨by kernel_rfl, ?h1_11⟩) hHeld ?r1_11
  case h1_11 => (intro w hSw; (try dsimp only at hSw); go_simp; try with_reducible rfl)
  try simp only [Act.put, List.setIfInBounds_toArray, List.set_cons_zero, List.set_cons_succ]
  refine wpAnyH_take (i := 12) (oi := { dst := some 32, op := Op.pick (Operand.tmp 24) (Operand.tmp 31) (Operand.const (Value.bool false)), type := 4, pos := "words.go:157", after := #[{ on := 4, ground := Ground.data }, { on := 11, ground := Ground.data }], guard := none }) (v := ?v1_12) (by kernel_rfl) (by kernel_rfl) (by kernel_rfl) (by kernel_rfl) (fun _ _ _ h => h) (Or.inl ⟨by kernel_rfl, ?h1_12⟩) hHeld ?r1_12
  case h1_12 => (intro w hSw; (try dsimp only at hSw); go_simp; try with_reducible rfl)
  try simp only [Act.put, List.setIfInBounds_toArray, List.set_cons_zero, List.set_cons_succ]
  refine wpAnyH_take (i := 13) (oi := { dst := some 19, op := Op.assign (Operand.tmp 32), type := 4, pos := "words.go:157", after := #[{ on := 12, ground := Ground.data }, { on := 10, ground := Ground.chain }], guard := none }) (v := ?v1_13) (by kernel_rfl) (by kernel_rfl) (by kernel_rfl) (by kernel_rfl) (fun _ _ _ h => h) (Or.inl ⟨by kernel_rfl, ?h1_13⟩) hHeld ?r1_13
  case h1_13 => (intro w hSw; (try dsimp only at hSw); go_simp; try with_reducible rfl)
  try simp only [Act.put, List.setIfInBounds_toArray, List.set_cons_zero, List.set_cons_succ]
  refine wpAnyH_done (by kernel_rfl) ?_ _
  have hb6 := hHeld.2.2.2.2.1
  all_goals go_wp2_with fail
  go_ret2
  rw [HXX.out]
  exact OwnPost.none_ 330 (below_then hb1 hb6)
set_option maxRecDepth 100000 in
set_option maxHeartbeats 3200000 in
theorem add_clash_in (l : List Ent) (ex : List UInt8) (ec : UInt8) (esy : List UInt8) (A : Option Addr) (c : Nat) (w : World) (hl : l.length ≤ 100) (hw : ∀ x ∈ l, x.1.length ≤ 1048576) (hc : l.length ≤ c) (hr : Reads w w.heap.size 3 A l.length (flat l)) (hx : ex.length ≤ 1048576) (hv : validL l = true) (hrt : rightL (ex, ec, esy) = true) (hat : atL l (ex, ec, esy) < l.length) (hcm : cmpL (l.getD (atL l (ex, ec, esy)) ([], 0, [])) (ex, ec, esy) ≠ 0) (hcl : (l.any fun o => clashL o (ex, ec, esy)) = true) :
    Calls Tryz.prog 13 #[.slice A l.length c, entV (ex, ec, esy)] w (OwnPost w (addR l (ex, ec, esy)).1 (addR l (ex, ec, esy)).2) := by
  have HXX := Lib.hid (show addR l (ex, ec, esy) = ([], 331) by unfold addR; rw [if_pos (by rw [hv, hrt]; rfl), if_neg (fun h => hcm h.2)]; rw [if_pos hcl])
  have HCL := Lib.hid hcl; clear hcl
  generalize hR : addR l (ex, ec, esy) = R at HXX ⊢
  clear hR
  have HRD := Lib.hid hr; clear hr
  have HW := Lib.hid hw; clear hw
  have HV := Lib.hid hv; have HT := Lib.hid hrt; clear hv hrt
  have hbox : Hid (∀ W : World, W = w.alloc (.cells #[str ex, byteV ec, str esy] 24) → Blk W w.heap.size 24 #[str ex, byteV ec, str esy] ∧ Below w.heap.size w W) := fun W h => by subst h; exact ⟨Blk.new _ _ _, (Below.refl _ _).alloc (Nat.le_refl _) _⟩
  have hatl : atL l (ex, ec, esy) ≤ l.length := firstIdx_le _ _
  have HFG := Lib.hid (fun W hr hB h0 h1 h2 => find_ge l (ex, ec, esy) A c w.heap.size W (by omega) hr hB h0 h1 h2)
  generalize atL l (ex, ec, esy) = at_ at *
  go_enter Tryz.func13, Tryz.ntmps13
  go_wp2_with fail
  obtain ⟨W1, hW1⟩ : ∃ W1 : World, W1 = w.alloc (.cells #[str ex, byteV ec, str esy] 24) := ⟨_, rfl⟩
  obtain ⟨hbk, hb1⟩ := hbox.out W1 hW1
  rw [← hW1]
  clear hW1
  have hB0 : w.heap.size < W1.heap.size := hbk.lt
  obtain ⟨B0, hB00⟩ : ∃ B0, B0 = w.heap.size := ⟨_, rfl⟩
  go_at_call 39; refine ((HFG.out) W1 ((HRD.out).later hb1) hbk.lt (hbk.cell 0) (hbk.cell 1) (hbk.cell 2)).mono ?_; rintro e' w2 ⟨rfl, hb2⟩
  have hbk2 := hbk.later hb2
  replace hb1 := below_then hb1 hb2; clear hb2 hbk
  go_wp2_with fail
  go_at_call 17; refine (valid_any l A c _ (fun x h => by have := HW.out x h; omega) hc ((HRD.out).later hb1)).mono ?_; rintro e' w3 ⟨rfl, hb3⟩; rw [HV.out]
  have hbk3 := hbk2.later hb3
  replace hb1 := below_then hb1 hb3; clear hb3 hbk2
  obtain ⟨k0, k1, k2⟩ := box_cells hbk3
  go_wp2_with fail
  go_at_call 24; refine (right_any ex ec esy _ (by omega)).mono ?_; rintro e' w4 ⟨rfl, hb4⟩; rw [HT.out]
  have hbk4 := hbk3.later hb4
  replace hb1 := below_then hb1 hb4; clear hb4 hbk3 k0 k1 k2
  obtain ⟨k0, k1, k2⟩ := box_cells hbk4
  have hz4 := hbk4.lt
  go_wp2_with fail
  have hcm2 : (cmpL (l.getD at_ ([], 0, [])) (ex, ec, esy) == 0) = false := by rw [beq_eq_false_iff_ne]; exact hcm
  clear hcm
  have hcm := hcm2; clear hcm2
  obtain ⟨b, off, hA, hBq, q0, q1, q2⟩ := ((HRD.out).later hb1).ent (k := at_) hat
  cases hA
  have hqd : l.getD at_ ([], 0, []) = l[at_] := by simp [hat]
  rw [hqd] at hcm
  clear hqd
  generalize l[at_] = q at q0 q1 q2 hcm
  obtain ⟨qx, qc, qy⟩ := q
  have hS6 : S6 w4 w4 w.heap.size (ex, ec, esy) b (off + at_ * 3) (qx, qc, qy) := ⟨k0, k1, k2, hz4, Below.refl _ _, q0, q1, q2, hBq⟩
  have hi1 : (at_ : Int) < (l.length : Int) := by omega
  refine wp_region_held_drew (S := fun W => S6 w4 W w.heap.size (ex, ec, esy) b (off + at_ * 3) (qx, qc, qy)) (by kernel_rfl) (by exact start6 hS6) (fun hHeld => ?_)
  refine wpAnyH_take (i := 0) (oi := { dst := some 20, op := Op.move (Operand.tmp 6), type := 3, pos := "words.go:157", after := #[], guard := none }) (v := ?v2_0) (by kernel_rfl) (by kernel_rfl) (by kernel_rfl) (by kernel_rfl) (fun _ _ _ h => h) (Or.inl ⟨by kernel_rfl, ?h2_0⟩) hHeld ?r2_0
  case h2_0 => (intro w hSw; (try dsimp only at hSw); go_simp; try with_reducible rfl)
  try simp only [Act.put, List.setIfInBounds_toArray, List.set_cons_zero, List.set_cons_succ]
  refine wpAnyH_take (i := 1) (oi := { dst := some 21, op := Op.move (Operand.tmp 0), type := 22, pos := "words.go:157", after := #[], guard := none }) (v := ?v2_1) (by kernel_rfl) (by kernel_rfl) (by kernel_rfl) (by kernel_rfl) (fun _ _ _ h => h) (Or.inl ⟨by kernel_rfl, ?h2_1⟩) hHeld ?r2_1
  case h2_1 => (intro w hSw; (try dsimp only at hSw); go_simp; try with_reducible rfl)
  try simp only [Act.put, List.setIfInBounds_toArray, List.set_cons_zero, List.set_cons_succ]
  refine wpAnyH_take (i := 2) (oi := { dst := some 22, op := Op.call { callee := Callee.builtin Builtin.len, args := #[Operand.tmp 21], argTypes := #[22] }, type := 3, pos := "words.go:157", after := #[{ on := 1, ground := Ground.data }], guard := none }) (v := ?v2_2) (by kernel_rfl) (by kernel_rfl) (by kernel_rfl) (by kernel_rfl) (fun _ _ _ h => h) (Or.inl ⟨by kernel_rfl, ?h2_2⟩) hHeld ?r2_2
  case h2_2 => (intro w hSw; (try dsimp only at hSw); go_simp; try with_reducible rfl)
  try simp only [Act.put, List.setIfInBounds_toArray, List.set_cons_zero, List.set_cons_succ]
  refine wpAnyH_take (i := 3) (oi := { dst := some 23, op := Op.binOp BinOp.lss 3 (Operand.tmp 20) (Operand.tmp 22) 3, type := 4, pos := "words.go:157", after := #[{ on := 0, ground := Ground.data }, { on := 2, ground := Ground.data }], guard := none }) (v := ?v2_3) (by kernel_rfl) (by kernel_rfl) (by kernel_rfl) (by kernel_rfl) (fun _ _ _ h => h) (Or.inl ⟨by kernel_rfl, ?h2_3⟩) hHeld ?r2_3
  case h2_3 => (intro w hSw; (try dsimp only at hSw); go_simp; try with_reducible rfl)
  try simp only [Act.put, List.setIfInBounds_toArray, List.set_cons_zero, List.set_cons_succ]
  refine wpAnyH_take (i := 4) (oi := { dst := some 24, op := Op.move (Operand.tmp 23), type := 4, pos := "words.go:157", after := #[{ on := 3, ground := Ground.data }], guard := none }) (v := ?v2_4) (by kernel_rfl) (by kernel_rfl) (by kernel_rfl) (by kernel_rfl) (fun _ _ _ h => h) (Or.inl ⟨by kernel_rfl, ?h2_4⟩) hHeld ?r2_4
  case h2_4 => (intro w hSw; (try dsimp only at hSw); go_simp; try with_reducible rfl)
  try simp only [Act.put, List.setIfInBounds_toArray, List.set_cons_zero, List.set_cons_succ]
  refine wpAnyH_take (i := 5) (oi := { dst := some 25, op := Op.move (Operand.tmp 0), type := 22, pos := "words.go:157", after := #[{ on := 4, ground := Ground.guard }], guard := some (4, true) }) (v := ?v2_5) (by kernel_rfl) (by kernel_rfl) (by kernel_rfl) (by kernel_rfl) (fun _ _ _ h => h) (Or.inl ⟨by kernel_rfl, ?h2_5⟩) hHeld ?r2_5
  case h2_5 => (intro w hSw; (try dsimp only at hSw); go_simp; try with_reducible rfl)
  try simp only [Act.put, List.setIfInBounds_toArray, List.set_cons_zero, List.set_cons_succ]
  refine wpAnyH_take (i := 6) (oi := { dst := some 26, op := Op.move (Operand.tmp 6), type := 3, pos := "words.go:157", after := #[{ on := 4, ground := Ground.guard }], guard := some (4, true) }) (v := ?v2_6) (by kernel_rfl) (by kernel_rfl) (by kernel_rfl) (by kernel_rfl) (fun _ _ _ h => h) (Or.inl ⟨by kernel_rfl, ?h2_6⟩) hHeld ?r2_6
  case h2_6 => (intro w hSw; (try dsimp only at hSw); go_simp; try with_reducible rfl)
  try simp only [Act.put, List.setIfInBounds_toArray, List.set_cons_zero, List.set_cons_succ]
  refine wpAnyH_take (i := 7) (oi := { dst := some 27, op := Op.indexAddr 22 (Operand.tmp 25) (Operand.tmp 26), type := 0, pos := "words.go:157", after := #[{ on := 5, ground := Ground.data }, { on := 6, ground := Ground.data }, { on := 4, ground := Ground.guard }], guard := some (4, true) }) (v := ?v2_7) (by kernel_rfl) (by kernel_rfl) (by kernel_rfl) (by kernel_rfl) (fun _ _ _ h => h) (Or.inl ⟨by kernel_rfl, ?h2_7⟩) hHeld ?r2_7
  case h2_7 => (intro w hSw; (try dsimp only at hSw); go_simp; try with_reducible rfl)
  try simp only [Act.put, List.setIfInBounds_toArray, List.set_cons_zero, List.set_cons_succ]
  refine wpAnyH_take (i := 8) (oi := { dst := some 28, op := Op.load 24 (Operand.tmp 27), type := 24, pos := "words.go:157", after := #[{ on := 7, ground := Ground.data }, { on := 4, ground := Ground.guard }], guard := some (4, true) }) (v := ?v2_8) (by kernel_rfl) (by kernel_rfl) (by kernel_rfl) (by kernel_rfl) (fun _ _ _ h => h) (Or.inl ⟨by kernel_rfl, ?h2_8⟩) hHeld ?r2_8
  case h2_8 => (intro w hSw; (try dsimp only at hSw); go_simp; try with_reducible rfl)
  try simp only [Act.put, List.setIfInBounds_toArray, List.set_cons_zero, List.set_cons_succ]
  refine wpAnyH_take (i := 9) (oi := { dst := some 29, op := Op.load 24 (Operand.tmp 3), type := 24, pos := "words.go:157", after := #[{ on := 4, ground := Ground.guard }], guard := some (4, true) }) (v := ?v2_9) (by kernel_rfl) (by kernel_rfl) (by kernel_rfl) (by kernel_rfl) (fun _ _ _ h => h) (Or.inl ⟨by kernel_rfl, ?h2_9⟩) hHeld ?r2_9
  case h2_9 => (intro w hSw; (try dsimp only at hSw); go_simp; try with_reducible rfl)
  try simp only [Act.put, List.setIfInBounds_toArray, List.set_cons_zero, List.set_cons_succ]
  refine wpAnyH_ready (rs := [10]) (by kernel_rfl) (by simp) ?_
  refine AllReadyH.cons (i := 10) (o := { dst := some 30, op := Op.call { callee := Callee.value (Operand.func 41), args := #[Operand.tmp 28, Operand.tmp 29], argTypes := #[24, 24] }, type := 3, pos := "words.go:157", after := #[{ on := 8, ground := Ground.data }, { on := 9, ground := Ground.data }, { on := 4, ground := Ground.chain }, { on := 4, ground := Ground.guard }], guard := some (4, true) }) rfl (fun K hK => ?_) AllReadyH.nil
  go_simp
  refine (compare_any (qx, qc, qy) (ex, ec, esy) _).mono ?_
  rintro e' w5 ⟨rfl, hb5⟩
  go_wp2_with fail
  refine hK.out _ _ (by exact keep6 (by assumption) (by assumption)) (fun hHeld => ?_)
  clear hK K
  try simp only [Act.put, List.setIfInBounds_toArray, List.set_cons_zero, List.set_cons_succ]
  refine wpAnyH_take (i := 11) (oi := { dst := some 31, op := Op.binOp BinOp.eql 3 (Operand.tmp 30) (Operand.const (Value.int IntKind.i64 0)) 3, type := 4, pos := "words.go:157", after := #[{ on := 10, ground := Ground.data }, { on := 4, ground := Ground.guard }], guard := some (4, true) }) (v := ?v2_11) (by kernel_rfl) (by kernel_rfl) (by kernel_rfl) (by kernel_rfl) (fun _ _ _ h => h) (Or.inl ⟨by kernel_rfl, ?h2_11⟩) hHeld ?r2_11
  case h2_11 => (intro w hSw; (try dsimp only at hSw); go_simp; try with_reducible rfl)
  try simp only [Act.put, List.setIfInBounds_toArray, List.set_cons_zero, List.set_cons_succ]
  refine wpAnyH_take (i := 12) (oi := { dst := some 32, op := Op.pick (Operand.tmp 24) (Operand.tmp 31) (Operand.const (Value.bool false)), type := 4, pos := "words.go:157", after := #[{ on := 4, ground := Ground.data }, { on := 11, ground := Ground.data }], guard := none }) (v := ?v2_12) (by kernel_rfl) (by kernel_rfl) (by kernel_rfl) (by kernel_rfl) (fun _ _ _ h => h) (Or.inl ⟨by kernel_rfl, ?h2_12⟩) hHeld ?r2_12
  case h2_12 => (intro w hSw; (try dsimp only at hSw); go_simp; try with_reducible rfl)
  try simp only [Act.put, List.setIfInBounds_toArray, List.set_cons_zero, List.set_cons_succ]
  refine wpAnyH_take (i := 13) (oi := { dst := some 19, op := Op.assign (Operand.tmp 32), type := 4, pos := "words.go:157", after := #[{ on := 12, ground := Ground.data }, { on := 10, ground := Ground.chain }], guard := none }) (v := ?v2_13) (by kernel_rfl) (by kernel_rfl) (by kernel_rfl) (by kernel_rfl) (fun _ _ _ h => h) (Or.inl ⟨by kernel_rfl, ?h2_13⟩) hHeld ?r2_13
  case h2_13 => (intro w hSw; (try dsimp only at hSw); go_simp; try with_reducible rfl)
  try simp only [Act.put, List.setIfInBounds_toArray, List.set_cons_zero, List.set_cons_succ]
  refine wpAnyH_done (by kernel_rfl) ?_ _
  have hb6 := hHeld.2.2.2.2.1
  have hbk6 := hbk4.later hb6
  obtain ⟨m0, m1, m2⟩ := box_cells hbk6
  replace hb1 := below_then hb1 hb6
  clear hHeld hb6 k0 k1 k2
  all_goals go_wp2_with fail
  go_at_call 42; refine (contains_add2 l (ex, ec, esy) _ c w.heap.size _ (by omega) ((HRD.out).later hb1) hbk6.lt m0 m1 m2).mono ?_; rintro e' w7 ⟨rfl, hb7⟩; rw [HCL.out]
  have hbk7 := hbk6.later hb7
  replace hb1 := below_then hb1 hb7
  clear hb7 hbk6 m0 m1 m2
  obtain ⟨m0, m1, m2⟩ := box_cells hbk7
  go_wp2_with fail
  go_ret2
  rw [HXX.out]
  exact OwnPost.none_ 331 hb1
set_option maxRecDepth 100000 in
set_option maxHeartbeats 3200000 in
theorem add_clash_end (l : List Ent) (ex : List UInt8) (ec : UInt8) (esy : List UInt8) (A : Option Addr) (c : Nat) (w : World) (hl : l.length ≤ 100) (hw : ∀ x ∈ l, x.1.length ≤ 1048576) (hc : l.length ≤ c) (hr : Reads w w.heap.size 3 A l.length (flat l)) (hx : ex.length ≤ 1048576) (hv : validL l = true) (hrt : rightL (ex, ec, esy) = true) (hat : atL l (ex, ec, esy) = l.length) (hcl : (l.any fun o => clashL o (ex, ec, esy)) = true) :
    Calls Tryz.prog 13 #[.slice A l.length c, entV (ex, ec, esy)] w (OwnPost w (addR l (ex, ec, esy)).1 (addR l (ex, ec, esy)).2) := by
  have HXX := Lib.hid (show addR l (ex, ec, esy) = ([], 331) by unfold addR; rw [if_pos (by rw [hv, hrt]; rfl), if_neg (fun h => absurd h.1 (by omega))]; rw [if_pos hcl])
  have HCL := Lib.hid hcl; clear hcl
  have HAT := Lib.hid hat; clear hat
  generalize hR : addR l (ex, ec, esy) = R at HXX ⊢
  clear hR
  have HRD := Lib.hid hr; clear hr
  have HW := Lib.hid hw; clear hw
  have HV := Lib.hid hv; have HT := Lib.hid hrt; clear hv hrt
  have hbox : Hid (∀ W : World, W = w.alloc (.cells #[str ex, byteV ec, str esy] 24) → Blk W w.heap.size 24 #[str ex, byteV ec, str esy] ∧ Below w.heap.size w W) := fun W h => by subst h; exact ⟨Blk.new _ _ _, (Below.refl _ _).alloc (Nat.le_refl _) _⟩
  have hatl : atL l (ex, ec, esy) ≤ l.length := firstIdx_le _ _
  have HFG := Lib.hid (fun W hr hB h0 h1 h2 => find_ge l (ex, ec, esy) A c w.heap.size W (by omega) hr hB h0 h1 h2)
  generalize atL l (ex, ec, esy) = at_ at *
  go_enter Tryz.func13, Tryz.ntmps13
  go_wp2_with fail
  obtain ⟨W1, hW1⟩ : ∃ W1 : World, W1 = w.alloc (.cells #[str ex, byteV ec, str esy] 24) := ⟨_, rfl⟩
  obtain ⟨hbk, hb1⟩ := hbox.out W1 hW1
  rw [← hW1]
  clear hW1
  have hB0 : w.heap.size < W1.heap.size := hbk.lt
  obtain ⟨B0, hB00⟩ : ∃ B0, B0 = w.heap.size := ⟨_, rfl⟩
  go_at_call 39; refine ((HFG.out) W1 ((HRD.out).later hb1) hbk.lt (hbk.cell 0) (hbk.cell 1) (hbk.cell 2)).mono ?_; rintro e' w2 ⟨rfl, hb2⟩
  have hbk2 := hbk.later hb2
  replace hb1 := below_then hb1 hb2; clear hb2 hbk
  go_wp2_with fail
  go_at_call 17; refine (valid_any l A c _ (fun x h => by have := HW.out x h; omega) hc ((HRD.out).later hb1)).mono ?_; rintro e' w3 ⟨rfl, hb3⟩; rw [HV.out]
  have hbk3 := hbk2.later hb3
  replace hb1 := below_then hb1 hb3; clear hb3 hbk2
  obtain ⟨k0, k1, k2⟩ := box_cells hbk3
  go_wp2_with fail
  go_at_call 24; refine (right_any ex ec esy _ (by omega)).mono ?_; rintro e' w4 ⟨rfl, hb4⟩; rw [HT.out]
  have hbk4 := hbk3.later hb4
  replace hb1 := below_then hb1 hb4; clear hb4 hbk3 k0 k1 k2
  obtain ⟨k0, k1, k2⟩ := box_cells hbk4
  have hz4 := hbk4.lt
  go_wp2_with fail
  have hi1 : ¬ (at_ : Int) < (l.length : Int) := by have := HAT.out; omega
  have hst4 : Below w4.heap.size w4 w4.drew := (Below.refl _ _).drew
  refine wp_region_held_drew (S := fun W => Below w4.heap.size w4 W) (by kernel_rfl) (by exact hst4) (fun hHeld => ?_)
  refine wpAnyH_take (i := 0) (oi := { dst := some 20, op := Op.move (Operand.tmp 6), type := 3, pos := "words.go:157", after := #[], guard := none }) (v := ?v3_0) (by kernel_rfl) (by kernel_rfl) (by kernel_rfl) (by kernel_rfl) (fun _ _ _ h => h) (Or.inl ⟨by kernel_rfl, ?h3_0⟩) hHeld ?r3_0
  case h3_0 => (intro w hSw; (try dsimp only at hSw); go_simp; try with_reducible rfl)
  try simp only [Act.put, List.setIfInBounds_toArray, List.set_cons_zero, List.set_cons_succ]
  refine wpAnyH_take (i := 1) (oi := { dst := some 21, op := Op.move (Operand.tmp 0), type := 22, pos := "words.go:157", after := #[], guard := none }) (v := ?v3_1) (by kernel_rfl) (by kernel_rfl) (by kernel_rfl) (by kernel_rfl) (fun _ _ _ h => h) (Or.inl ⟨by kernel_rfl, ?h3_1⟩) hHeld ?r3_1
  case h3_1 => (intro w hSw; (try dsimp only at hSw); go_simp; try with_reducible rfl)
  try simp only [Act.put, List.setIfInBounds_toArray, List.set_cons_zero, List.set_cons_succ]
  refine wpAnyH_take (i := 2) (oi := { dst := some 22, op := Op.call { callee := Callee.builtin Builtin.len, args := #[Operand.tmp 21], argTypes := #[22] }, type := 3, pos := "words.go:157", after := #[{ on := 1, ground := Ground.data }], guard := none }) (v := ?v3_2) (by kernel_rfl) (by kernel_rfl) (by kernel_rfl) (by kernel_rfl) (fun _ _ _ h => h) (Or.inl ⟨by kernel_rfl, ?h3_2⟩) hHeld ?r3_2
  case h3_2 => (intro w hSw; (try dsimp only at hSw); go_simp; try with_reducible rfl)
  try simp only [Act.put, List.setIfInBounds_toArray, List.set_cons_zero, List.set_cons_succ]
  refine wpAnyH_take (i := 3) (oi := { dst := some 23, op := Op.binOp BinOp.lss 3 (Operand.tmp 20) (Operand.tmp 22) 3, type := 4, pos := "words.go:157", after := #[{ on := 0, ground := Ground.data }, { on := 2, ground := Ground.data }], guard := none }) (v := ?v3_3) (by kernel_rfl) (by kernel_rfl) (by kernel_rfl) (by kernel_rfl) (fun _ _ _ h => h) (Or.inl ⟨by kernel_rfl, ?h3_3⟩) hHeld ?r3_3
  case h3_3 => (intro w hSw; (try dsimp only at hSw); go_simp; try with_reducible rfl)
  try simp only [Act.put, List.setIfInBounds_toArray, List.set_cons_zero, List.set_cons_succ]
  refine wpAnyH_take (i := 4) (oi := { dst := some 24, op := Op.move (Operand.tmp 23), type := 4, pos := "words.go:157", after := #[{ on := 3, ground := Ground.data }], guard := none }) (v := ?v3_4) (by kernel_rfl) (by kernel_rfl) (by kernel_rfl) (by kernel_rfl) (fun _ _ _ h => h) (Or.inl ⟨by kernel_rfl, ?h3_4⟩) hHeld ?r3_4
  case h3_4 => (intro w hSw; (try dsimp only at hSw); go_simp; try with_reducible rfl)
  try simp only [Act.put, List.setIfInBounds_toArray, List.set_cons_zero, List.set_cons_succ]
  refine wpAnyH_take (i := 5) (oi := { dst := some 25, op := Op.move (Operand.tmp 0), type := 22, pos := "words.go:157", after := #[{ on := 4, ground := Ground.guard }], guard := some (4, true) }) (v := undef) (by kernel_rfl) (by kernel_rfl) (by kernel_rfl) (by kernel_rfl) (fun _ _ _ h => h) (Or.inr ⟨by kernel_rfl, rfl⟩) hHeld ?_
  try simp only [Act.put, List.setIfInBounds_toArray, List.set_cons_zero, List.set_cons_succ]
  refine wpAnyH_take (i := 6) (oi := { dst := some 26, op := Op.move (Operand.tmp 6), type := 3, pos := "words.go:157", after := #[{ on := 4, ground := Ground.guard }], guard := some (4, true) }) (v := undef) (by kernel_rfl) (by kernel_rfl) (by kernel_rfl) (by kernel_rfl) (fun _ _ _ h => h) (Or.inr ⟨by kernel_rfl, rfl⟩) hHeld ?_
  try simp only [Act.put, List.setIfInBounds_toArray, List.set_cons_zero, List.set_cons_succ]
  refine wpAnyH_take (i := 7) (oi := { dst := some 27, op := Op.indexAddr 22 (Operand.tmp 25) (Operand.tmp 26), type := 0, pos := "words.go:157", after := #[{ on := 5, ground := Ground.data }, { on := 6, ground := Ground.data }, { on := 4, ground := Ground.guard }], guard := some (4, true) }) (v := undef) (by kernel_rfl) (by kernel_rfl) (by kernel_rfl) (by kernel_rfl) (fun _ _ _ h => h) (Or.inr ⟨by kernel_rfl, rfl⟩) hHeld ?_
  try simp only [Act.put, List.setIfInBounds_toArray, List.set_cons_zero, List.set_cons_succ]
  refine wpAnyH_take (i := 8) (oi := { dst := some 28, op := Op.load 24 (Operand.tmp 27), type := 24, pos := "words.go:157", after := #[{ on := 7, ground := Ground.data }, { on := 4, ground := Ground.guard }], guard := some (4, true) }) (v := undef) (by kernel_rfl) (by kernel_rfl) (by kernel_rfl) (by kernel_rfl) (fun _ _ _ h => h) (Or.inr ⟨by kernel_rfl, rfl⟩) hHeld ?_
  try simp only [Act.put, List.setIfInBounds_toArray, List.set_cons_zero, List.set_cons_succ]
  refine wpAnyH_take (i := 9) (oi := { dst := some 29, op := Op.load 24 (Operand.tmp 3), type := 24, pos := "words.go:157", after := #[{ on := 4, ground := Ground.guard }], guard := some (4, true) }) (v := undef) (by kernel_rfl) (by kernel_rfl) (by kernel_rfl) (by kernel_rfl) (fun _ _ _ h => h) (Or.inr ⟨by kernel_rfl, rfl⟩) hHeld ?_
  try simp only [Act.put, List.setIfInBounds_toArray, List.set_cons_zero, List.set_cons_succ]
  refine wpAnyH_take (i := 10) (oi := { dst := some 30, op := Op.call { callee := Callee.value (Operand.func 41), args := #[Operand.tmp 28, Operand.tmp 29], argTypes := #[24, 24] }, type := 3, pos := "words.go:157", after := #[{ on := 8, ground := Ground.data }, { on := 9, ground := Ground.data }, { on := 4, ground := Ground.chain }, { on := 4, ground := Ground.guard }], guard := some (4, true) }) (v := undef) (by kernel_rfl) (by kernel_rfl) (by kernel_rfl) (by kernel_rfl) (fun _ _ _ h => h) (Or.inr ⟨by kernel_rfl, rfl⟩) hHeld ?_
  try simp only [Act.put, List.setIfInBounds_toArray, List.set_cons_zero, List.set_cons_succ]
  refine wpAnyH_take (i := 11) (oi := { dst := some 31, op := Op.binOp BinOp.eql 3 (Operand.tmp 30) (Operand.const (Value.int IntKind.i64 0)) 3, type := 4, pos := "words.go:157", after := #[{ on := 10, ground := Ground.data }, { on := 4, ground := Ground.guard }], guard := some (4, true) }) (v := undef) (by kernel_rfl) (by kernel_rfl) (by kernel_rfl) (by kernel_rfl) (fun _ _ _ h => h) (Or.inr ⟨by kernel_rfl, rfl⟩) hHeld ?_
  try simp only [Act.put, List.setIfInBounds_toArray, List.set_cons_zero, List.set_cons_succ]
  refine wpAnyH_take (i := 12) (oi := { dst := some 32, op := Op.pick (Operand.tmp 24) (Operand.tmp 31) (Operand.const (Value.bool false)), type := 4, pos := "words.go:157", after := #[{ on := 4, ground := Ground.data }, { on := 11, ground := Ground.data }], guard := none }) (v := ?v3_12) (by kernel_rfl) (by kernel_rfl) (by kernel_rfl) (by kernel_rfl) (fun _ _ _ h => h) (Or.inl ⟨by kernel_rfl, ?h3_12⟩) hHeld ?r3_12
  case h3_12 => (intro w hSw; (try dsimp only at hSw); go_simp; try with_reducible rfl)
  try simp only [Act.put, List.setIfInBounds_toArray, List.set_cons_zero, List.set_cons_succ]
  refine wpAnyH_take (i := 13) (oi := { dst := some 19, op := Op.assign (Operand.tmp 32), type := 4, pos := "words.go:157", after := #[{ on := 12, ground := Ground.data }, { on := 10, ground := Ground.chain }], guard := none }) (v := ?v3_13) (by kernel_rfl) (by kernel_rfl) (by kernel_rfl) (by kernel_rfl) (fun _ _ _ h => h) (Or.inl ⟨by kernel_rfl, ?h3_13⟩) hHeld ?r3_13
  case h3_13 => (intro w hSw; (try dsimp only at hSw); go_simp; try with_reducible rfl)
  try simp only [Act.put, List.setIfInBounds_toArray, List.set_cons_zero, List.set_cons_succ]
  refine wpAnyH_done (by kernel_rfl) ?_ _
  have hb6 := hHeld
  have hbk6 := hbk4.later hb6
  obtain ⟨m0, m1, m2⟩ := box_cells hbk6
  replace hb1 := below_then hb1 hb6
  clear hHeld hb6 k0 k1 k2
  all_goals go_wp2_with fail
  go_at_call 42; refine (contains_add2 l (ex, ec, esy) _ c w.heap.size _ (by omega) ((HRD.out).later hb1) hbk6.lt m0 m1 m2).mono ?_; rintro e' w7 ⟨rfl, hb7⟩; rw [HCL.out]
  have hbk7 := hbk6.later hb7
  replace hb1 := below_then hb1 hb7
  clear hb7 hbk6 m0 m1 m2
  obtain ⟨m0, m1, m2⟩ := box_cells hbk7
  go_wp2_with fail
  go_ret2
  rw [HXX.out]
  exact OwnPost.none_ 331 hb1
set_option maxRecDepth 100000 in
set_option maxHeartbeats 3200000 in
theorem add_many_in (l : List Ent) (ex : List UInt8) (ec : UInt8) (esy : List UInt8) (A : Option Addr) (c : Nat) (w : World) (hl : l.length ≤ 100) (hw : ∀ x ∈ l, x.1.length ≤ 1048576) (hc : l.length ≤ c) (hr : Reads w w.heap.size 3 A l.length (flat l)) (hx : ex.length ≤ 1048576) (hv : validL l = true) (hrt : rightL (ex, ec, esy) = true) (hat : atL l (ex, ec, esy) < l.length) (hcm : cmpL (l.getD (atL l (ex, ec, esy)) ([], 0, [])) (ex, ec, esy) ≠ 0) (hcl : (l.any fun o => clashL o (ex, ec, esy)) = false) (hn : l.length = 100) :
    Calls Tryz.prog 13 #[.slice A l.length c, entV (ex, ec, esy)] w (OwnPost w (addR l (ex, ec, esy)).1 (addR l (ex, ec, esy)).2) := by
  have HXX := Lib.hid (show addR l (ex, ec, esy) = ([], 5) by unfold addR; rw [if_pos (by rw [hv, hrt]; rfl), if_neg (fun h => hcm h.2)]; rw [if_neg (by rw [hcl]; simp), if_pos hn])
  have HCL := Lib.hid hcl; clear hcl
  have HN := Lib.hid hn; clear hn
  generalize hR : addR l (ex, ec, esy) = R at HXX ⊢
  clear hR
  have HRD := Lib.hid hr; clear hr
  have HW := Lib.hid hw; clear hw
  have HV := Lib.hid hv; have HT := Lib.hid hrt; clear hv hrt
  have hbox : Hid (∀ W : World, W = w.alloc (.cells #[str ex, byteV ec, str esy] 24) → Blk W w.heap.size 24 #[str ex, byteV ec, str esy] ∧ Below w.heap.size w W) := fun W h => by subst h; exact ⟨Blk.new _ _ _, (Below.refl _ _).alloc (Nat.le_refl _) _⟩
  have hatl : atL l (ex, ec, esy) ≤ l.length := firstIdx_le _ _
  have HFG := Lib.hid (fun W hr hB h0 h1 h2 => find_ge l (ex, ec, esy) A c w.heap.size W (by omega) hr hB h0 h1 h2)
  generalize atL l (ex, ec, esy) = at_ at *
  go_enter Tryz.func13, Tryz.ntmps13
  go_wp2_with fail
  obtain ⟨W1, hW1⟩ : ∃ W1 : World, W1 = w.alloc (.cells #[str ex, byteV ec, str esy] 24) := ⟨_, rfl⟩
  obtain ⟨hbk, hb1⟩ := hbox.out W1 hW1
  rw [← hW1]
  clear hW1
  have hB0 : w.heap.size < W1.heap.size := hbk.lt
  obtain ⟨B0, hB00⟩ : ∃ B0, B0 = w.heap.size := ⟨_, rfl⟩
  go_at_call 39; refine ((HFG.out) W1 ((HRD.out).later hb1) hbk.lt (hbk.cell 0) (hbk.cell 1) (hbk.cell 2)).mono ?_; rintro e' w2 ⟨rfl, hb2⟩
  have hbk2 := hbk.later hb2
  replace hb1 := below_then hb1 hb2; clear hb2 hbk
  go_wp2_with fail
  go_at_call 17; refine (valid_any l A c _ (fun x h => by have := HW.out x h; omega) hc ((HRD.out).later hb1)).mono ?_; rintro e' w3 ⟨rfl, hb3⟩; rw [HV.out]
  have hbk3 := hbk2.later hb3
  replace hb1 := below_then hb1 hb3; clear hb3 hbk2
  obtain ⟨k0, k1, k2⟩ := box_cells hbk3
  go_wp2_with fail
  go_at_call 24; refine (right_any ex ec esy _ (by omega)).mono ?_; rintro e' w4 ⟨rfl, hb4⟩; rw [HT.out]
  have hbk4 := hbk3.later hb4
  replace hb1 := below_then hb1 hb4; clear hb4 hbk3 k0 k1 k2
  obtain ⟨k0, k1, k2⟩ := box_cells hbk4
  have hz4 := hbk4.lt
  go_wp2_with fail
  have hcm2 : (cmpL (l.getD at_ ([], 0, [])) (ex, ec, esy) == 0) = false := by rw [beq_eq_false_iff_ne]; exact hcm
  clear hcm
  have hcm := hcm2; clear hcm2
  obtain ⟨b, off, hA, hBq, q0, q1, q2⟩ := ((HRD.out).later hb1).ent (k := at_) hat
  cases hA
  have hqd : l.getD at_ ([], 0, []) = l[at_] := by simp [hat]
  rw [hqd] at hcm
  clear hqd
  generalize l[at_] = q at q0 q1 q2 hcm
  obtain ⟨qx, qc, qy⟩ := q
  have hS6 : S6 w4 w4 w.heap.size (ex, ec, esy) b (off + at_ * 3) (qx, qc, qy) := ⟨k0, k1, k2, hz4, Below.refl _ _, q0, q1, q2, hBq⟩
  have hi1 : (at_ : Int) < (l.length : Int) := by omega
  refine wp_region_held_drew (S := fun W => S6 w4 W w.heap.size (ex, ec, esy) b (off + at_ * 3) (qx, qc, qy)) (by kernel_rfl) (by exact start6 hS6) (fun hHeld => ?_)
  refine wpAnyH_take (i := 0) (oi := { dst := some 20, op := Op.move (Operand.tmp 6), type := 3, pos := "words.go:157", after := #[], guard := none }) (v := ?v4_0) (by kernel_rfl) (by kernel_rfl) (by kernel_rfl) (by kernel_rfl) (fun _ _ _ h => h) (Or.inl ⟨by kernel_rfl, ?h4_0⟩) hHeld ?r4_0
  case h4_0 => (intro w hSw; (try dsimp only at hSw); go_simp; try with_reducible rfl)
  try simp only [Act.put, List.setIfInBounds_toArray, List.set_cons_zero, List.set_cons_succ]
  refine wpAnyH_take (i := 1) (oi := { dst := some 21, op := Op.move (Operand.tmp 0), type := 22, pos := "words.go:157", after := #[], guard := none }) (v := ?v4_1) (by kernel_rfl) (by kernel_rfl) (by kernel_rfl) (by kernel_rfl) (fun _ _ _ h => h) (Or.inl ⟨by kernel_rfl, ?h4_1⟩) hHeld ?r4_1
  case h4_1 => (intro w hSw; (try dsimp only at hSw); go_simp; try with_reducible rfl)
  try simp only [Act.put, List.setIfInBounds_toArray, List.set_cons_zero, List.set_cons_succ]
  refine wpAnyH_take (i := 2) (oi := { dst := some 22, op := Op.call { callee := Callee.builtin Builtin.len, args := #[Operand.tmp 21], argTypes := #[22] }, type := 3, pos := "words.go:157", after := #[{ on := 1, ground := Ground.data }], guard := none }) (v := ?v4_2) (by kernel_rfl) (by kernel_rfl) (by kernel_rfl) (by kernel_rfl) (fun _ _ _ h => h) (Or.inl ⟨by kernel_rfl, ?h4_2⟩) hHeld ?r4_2
  case h4_2 => (intro w hSw; (try dsimp only at hSw); go_simp; try with_reducible rfl)
  try simp only [Act.put, List.setIfInBounds_toArray, List.set_cons_zero, List.set_cons_succ]
  refine wpAnyH_take (i := 3) (oi := { dst := some 23, op := Op.binOp BinOp.lss 3 (Operand.tmp 20) (Operand.tmp 22) 3, type := 4, pos := "words.go:157", after := #[{ on := 0, ground := Ground.data }, { on := 2, ground := Ground.data }], guard := none }) (v := ?v4_3) (by kernel_rfl) (by kernel_rfl) (by kernel_rfl) (by kernel_rfl) (fun _ _ _ h => h) (Or.inl ⟨by kernel_rfl, ?h4_3⟩) hHeld ?r4_3
  case h4_3 => (intro w hSw; (try dsimp only at hSw); go_simp; try with_reducible rfl)
  try simp only [Act.put, List.setIfInBounds_toArray, List.set_cons_zero, List.set_cons_succ]
  refine wpAnyH_take (i := 4) (oi := { dst := some 24, op := Op.move (Operand.tmp 23), type := 4, pos := "words.go:157", after := #[{ on := 3, ground := Ground.data }], guard := none }) (v := ?v4_4) (by kernel_rfl) (by kernel_rfl) (by kernel_rfl) (by kernel_rfl) (fun _ _ _ h => h) (Or.inl ⟨by kernel_rfl, ?h4_4⟩) hHeld ?r4_4
  case h4_4 => (intro w hSw; (try dsimp only at hSw); go_simp; try with_reducible rfl)
  try simp only [Act.put, List.setIfInBounds_toArray, List.set_cons_zero, List.set_cons_succ]
  refine wpAnyH_take (i := 5) (oi := { dst := some 25, op := Op.move (Operand.tmp 0), type := 22, pos := "words.go:157", after := #[{ on := 4, ground := Ground.guard }], guard := some (4, true) }) (v := ?v4_5) (by kernel_rfl) (by kernel_rfl) (by kernel_rfl) (by kernel_rfl) (fun _ _ _ h => h) (Or.inl ⟨by kernel_rfl, ?h4_5⟩) hHeld ?r4_5
  case h4_5 => (intro w hSw; (try dsimp only at hSw); go_simp; try with_reducible rfl)
  try simp only [Act.put, List.setIfInBounds_toArray, List.set_cons_zero, List.set_cons_succ]
  refine wpAnyH_take (i := 6) (oi := { dst := some 26, op := Op.move (Operand.tmp 6), type := 3, pos := "words.go:157", after := #[{ on := 4, ground := Ground.guard }], guard := some (4, true) }) (v := ?v4_6) (by kernel_rfl) (by kernel_rfl) (by kernel_rfl) (by kernel_rfl) (fun _ _ _ h => h) (Or.inl ⟨by kernel_rfl, ?h4_6⟩) hHeld ?r4_6
  case h4_6 => (intro w hSw; (try dsimp only at hSw); go_simp; try with_reducible rfl)
  try simp only [Act.put, List.setIfInBounds_toArray, List.set_cons_zero, List.set_cons_succ]
  refine wpAnyH_take (i := 7) (oi := { dst := some 27, op := Op.indexAddr 22 (Operand.tmp 25) (Operand.tmp 26), type := 0, pos := "words.go:157", after := #[{ on := 5, ground := Ground.data }, { on := 6, ground := Ground.data }, { on := 4, ground := Ground.guard }], guard := some (4, true) }) (v := ?v4_7) (by kernel_rfl) (by kernel_rfl) (by kernel_rfl) (by kernel_rfl) (fun _ _ _ h => h) (Or.inl ⟨by kernel_rfl, ?h4_7⟩) hHeld ?r4_7
  case h4_7 => (intro w hSw; (try dsimp only at hSw); go_simp; try with_reducible rfl)
  try simp only [Act.put, List.setIfInBounds_toArray, List.set_cons_zero, List.set_cons_succ]
  refine wpAnyH_take (i := 8) (oi := { dst := some 28, op := Op.load 24 (Operand.tmp 27), type := 24, pos := "words.go:157", after := #[{ on := 7, ground := Ground.data }, { on := 4, ground := Ground.guard }], guard := some (4, true) }) (v := ?v4_8) (by kernel_rfl) (by kernel_rfl) (by kernel_rfl) (by kernel_rfl) (fun _ _ _ h => h) (Or.inl ⟨by kernel_rfl, ?h4_8⟩) hHeld ?r4_8
  case h4_8 => (intro w hSw; (try dsimp only at hSw); go_simp; try with_reducible rfl)
  try simp only [Act.put, List.setIfInBounds_toArray, List.set_cons_zero, List.set_cons_succ]
  refine wpAnyH_take (i := 9) (oi := { dst := some 29, op := Op.load 24 (Operand.tmp 3), type := 24, pos := "words.go:157", after := #[{ on := 4, ground := Ground.guard }], guard := some (4, true) }) (v := ?v4_9) (by kernel_rfl) (by kernel_rfl) (by kernel_rfl) (by kernel_rfl) (fun _ _ _ h => h) (Or.inl ⟨by kernel_rfl, ?h4_9⟩) hHeld ?r4_9
  case h4_9 => (intro w hSw; (try dsimp only at hSw); go_simp; try with_reducible rfl)
  try simp only [Act.put, List.setIfInBounds_toArray, List.set_cons_zero, List.set_cons_succ]
  refine wpAnyH_ready (rs := [10]) (by kernel_rfl) (by simp) ?_
  refine AllReadyH.cons (i := 10) (o := { dst := some 30, op := Op.call { callee := Callee.value (Operand.func 41), args := #[Operand.tmp 28, Operand.tmp 29], argTypes := #[24, 24] }, type := 3, pos := "words.go:157", after := #[{ on := 8, ground := Ground.data }, { on := 9, ground := Ground.data }, { on := 4, ground := Ground.chain }, { on := 4, ground := Ground.guard }], guard := some (4, true) }) rfl (fun K hK => ?_) AllReadyH.nil
  go_simp
  refine (compare_any (qx, qc, qy) (ex, ec, esy) _).mono ?_
  rintro e' w5 ⟨rfl, hb5⟩
  go_wp2_with fail
  refine hK.out _ _ (by exact keep6 (by assumption) (by assumption)) (fun hHeld => ?_)
  clear hK K
  try simp only [Act.put, List.setIfInBounds_toArray, List.set_cons_zero, List.set_cons_succ]
  refine wpAnyH_take (i := 11) (oi := { dst := some 31, op := Op.binOp BinOp.eql 3 (Operand.tmp 30) (Operand.const (Value.int IntKind.i64 0)) 3, type := 4, pos := "words.go:157", after := #[{ on := 10, ground := Ground.data }, { on := 4, ground := Ground.guard }], guard := some (4, true) }) (v := ?v4_11) (by kernel_rfl) (by kernel_rfl) (by kernel_rfl) (by kernel_rfl) (fun _ _ _ h => h) (Or.inl ⟨by kernel_rfl, ?h4_11⟩) hHeld ?r4_11
  case h4_11 => (intro w hSw; (try dsimp only at hSw); go_simp; try with_reducible rfl)
  try simp only [Act.put, List.setIfInBounds_toArray, List.set_cons_zero, List.set_cons_succ]
  refine wpAnyH_take (i := 12) (oi := { dst := some 32, op := Op.pick (Operand.tmp 24) (Operand.tmp 31) (Operand.const (Value.bool false)), type := 4, pos := "words.go:157", after := #[{ on := 4, ground := Ground.data }, { on := 11, ground := Ground.data }], guard := none }) (v := ?v4_12) (by kernel_rfl) (by kernel_rfl) (by kernel_rfl) (by kernel_rfl) (fun _ _ _ h => h) (Or.inl ⟨by kernel_rfl, ?h4_12⟩) hHeld ?r4_12
  case h4_12 => (intro w hSw; (try dsimp only at hSw); go_simp; try with_reducible rfl)
  try simp only [Act.put, List.setIfInBounds_toArray, List.set_cons_zero, List.set_cons_succ]
  refine wpAnyH_take (i := 13) (oi := { dst := some 19, op := Op.assign (Operand.tmp 32), type := 4, pos := "words.go:157", after := #[{ on := 12, ground := Ground.data }, { on := 10, ground := Ground.chain }], guard := none }) (v := ?v4_13) (by kernel_rfl) (by kernel_rfl) (by kernel_rfl) (by kernel_rfl) (fun _ _ _ h => h) (Or.inl ⟨by kernel_rfl, ?h4_13⟩) hHeld ?r4_13
  case h4_13 => (intro w hSw; (try dsimp only at hSw); go_simp; try with_reducible rfl)
  try simp only [Act.put, List.setIfInBounds_toArray, List.set_cons_zero, List.set_cons_succ]
  refine wpAnyH_done (by kernel_rfl) ?_ _
  have hb6 := hHeld.2.2.2.2.1
  have hbk6 := hbk4.later hb6
  obtain ⟨m0, m1, m2⟩ := box_cells hbk6
  replace hb1 := below_then hb1 hb6
  clear hHeld hb6 k0 k1 k2
  all_goals go_wp2_with fail
  go_at_call 42; refine (contains_add2 l (ex, ec, esy) _ c w.heap.size _ (by omega) ((HRD.out).later hb1) hbk6.lt m0 m1 m2).mono ?_; rintro e' w7 ⟨rfl, hb7⟩; rw [HCL.out]
  have hbk7 := hbk6.later hb7
  replace hb1 := below_then hb1 hb7
  clear hb7 hbk6 m0 m1 m2
  obtain ⟨m0, m1, m2⟩ := box_cells hbk7
  have h100 : ((l.length : Int) == 100) = true := by rw [beq_iff_eq]; have := HN.out; omega
  go_wp2_with fail
  go_ret2
  rw [HXX.out]
  exact OwnPost.none_ 5 hb1
set_option maxRecDepth 100000 in
set_option maxHeartbeats 3200000 in
theorem add_many_end (l : List Ent) (ex : List UInt8) (ec : UInt8) (esy : List UInt8) (A : Option Addr) (c : Nat) (w : World) (hl : l.length ≤ 100) (hw : ∀ x ∈ l, x.1.length ≤ 1048576) (hc : l.length ≤ c) (hr : Reads w w.heap.size 3 A l.length (flat l)) (hx : ex.length ≤ 1048576) (hv : validL l = true) (hrt : rightL (ex, ec, esy) = true) (hat : atL l (ex, ec, esy) = l.length) (hcl : (l.any fun o => clashL o (ex, ec, esy)) = false) (hn : l.length = 100) :
    Calls Tryz.prog 13 #[.slice A l.length c, entV (ex, ec, esy)] w (OwnPost w (addR l (ex, ec, esy)).1 (addR l (ex, ec, esy)).2) := by
  have HXX := Lib.hid (show addR l (ex, ec, esy) = ([], 5) by unfold addR; rw [if_pos (by rw [hv, hrt]; rfl), if_neg (fun h => absurd h.1 (by omega))]; rw [if_neg (by rw [hcl]; simp), if_pos hn])
  have HCL := Lib.hid hcl; clear hcl
  have HN := Lib.hid hn; clear hn
  have HAT := Lib.hid hat; clear hat
  generalize hR : addR l (ex, ec, esy) = R at HXX ⊢
  clear hR
  have HRD := Lib.hid hr; clear hr
  have HW := Lib.hid hw; clear hw
  have HV := Lib.hid hv; have HT := Lib.hid hrt; clear hv hrt
  have hbox : Hid (∀ W : World, W = w.alloc (.cells #[str ex, byteV ec, str esy] 24) → Blk W w.heap.size 24 #[str ex, byteV ec, str esy] ∧ Below w.heap.size w W) := fun W h => by subst h; exact ⟨Blk.new _ _ _, (Below.refl _ _).alloc (Nat.le_refl _) _⟩
  have hatl : atL l (ex, ec, esy) ≤ l.length := firstIdx_le _ _
  have HFG := Lib.hid (fun W hr hB h0 h1 h2 => find_ge l (ex, ec, esy) A c w.heap.size W (by omega) hr hB h0 h1 h2)
  generalize atL l (ex, ec, esy) = at_ at *
  go_enter Tryz.func13, Tryz.ntmps13
  go_wp2_with fail
  obtain ⟨W1, hW1⟩ : ∃ W1 : World, W1 = w.alloc (.cells #[str ex, byteV ec, str esy] 24) := ⟨_, rfl⟩
  obtain ⟨hbk, hb1⟩ := hbox.out W1 hW1
  rw [← hW1]
  clear hW1
  have hB0 : w.heap.size < W1.heap.size := hbk.lt
  obtain ⟨B0, hB00⟩ : ∃ B0, B0 = w.heap.size := ⟨_, rfl⟩
  go_at_call 39; refine ((HFG.out) W1 ((HRD.out).later hb1) hbk.lt (hbk.cell 0) (hbk.cell 1) (hbk.cell 2)).mono ?_; rintro e' w2 ⟨rfl, hb2⟩
  have hbk2 := hbk.later hb2
  replace hb1 := below_then hb1 hb2; clear hb2 hbk
  go_wp2_with fail
  go_at_call 17; refine (valid_any l A c _ (fun x h => by have := HW.out x h; omega) hc ((HRD.out).later hb1)).mono ?_; rintro e' w3 ⟨rfl, hb3⟩; rw [HV.out]
  have hbk3 := hbk2.later hb3
  replace hb1 := below_then hb1 hb3; clear hb3 hbk2
  obtain ⟨k0, k1, k2⟩ := box_cells hbk3
  go_wp2_with fail
  go_at_call 24; refine (right_any ex ec esy _ (by omega)).mono ?_; rintro e' w4 ⟨rfl, hb4⟩; rw [HT.out]
  have hbk4 := hbk3.later hb4
  replace hb1 := below_then hb1 hb4; clear hb4 hbk3 k0 k1 k2
  obtain ⟨k0, k1, k2⟩ := box_cells hbk4
  have hz4 := hbk4.lt
  go_wp2_with fail
  have hi1 : ¬ (at_ : Int) < (l.length : Int) := by have := HAT.out; omega
  have hst4 : Below w4.heap.size w4 w4.drew := (Below.refl _ _).drew
  refine wp_region_held_drew (S := fun W => Below w4.heap.size w4 W) (by kernel_rfl) (by exact hst4) (fun hHeld => ?_)
  refine wpAnyH_take (i := 0) (oi := { dst := some 20, op := Op.move (Operand.tmp 6), type := 3, pos := "words.go:157", after := #[], guard := none }) (v := ?v5_0) (by kernel_rfl) (by kernel_rfl) (by kernel_rfl) (by kernel_rfl) (fun _ _ _ h => h) (Or.inl ⟨by kernel_rfl, ?h5_0⟩) hHeld ?r5_0
  case h5_0 => (intro w hSw; (try dsimp only at hSw); go_simp; try with_reducible rfl)
  try simp only [Act.put, List.setIfInBounds_toArray, List.set_cons_zero, List.set_cons_succ]
  refine wpAnyH_take (i := 1) (oi := { dst := some 21, op := Op.move (Operand.tmp 0), type := 22, pos := "words.go:157", after := #[], guard := none }) (v := ?v5_1) (by kernel_rfl) (by kernel_rfl) (by kernel_rfl) (by kernel_rfl) (fun _ _ _ h => h) (Or.inl ⟨by kernel_rfl, ?h5_1⟩) hHeld ?r5_1
  case h5_1 => (intro w hSw; (try dsimp only at hSw); go_simp; try with_reducible rfl)
  try simp only [Act.put, List.setIfInBounds_toArray, List.set_cons_zero, List.set_cons_succ]
  refine wpAnyH_take (i := 2) (oi := { dst := some 22, op := Op.call { callee := Callee.builtin Builtin.len, args := #[Operand.tmp 21], argTypes := #[22] }, type := 3, pos := "words.go:157", after := #[{ on := 1, ground := Ground.data }], guard := none }) (v := ?v5_2) (by kernel_rfl) (by kernel_rfl) (by kernel_rfl) (by kernel_rfl) (fun _ _ _ h => h) (Or.inl ⟨by kernel_rfl, ?h5_2⟩) hHeld ?r5_2
  case h5_2 => (intro w hSw; (try dsimp only at hSw); go_simp; try with_reducible rfl)
  try simp only [Act.put, List.setIfInBounds_toArray, List.set_cons_zero, List.set_cons_succ]
  refine wpAnyH_take (i := 3) (oi := { dst := some 23, op := Op.binOp BinOp.lss 3 (Operand.tmp 20) (Operand.tmp 22) 3, type := 4, pos := "words.go:157", after := #[{ on := 0, ground := Ground.data }, { on := 2, ground := Ground.data }], guard := none }) (v := ?v5_3) (by kernel_rfl) (by kernel_rfl) (by kernel_rfl) (by kernel_rfl) (fun _ _ _ h => h) (Or.inl ⟨by kernel_rfl, ?h5_3⟩) hHeld ?r5_3
  case h5_3 => (intro w hSw; (try dsimp only at hSw); go_simp; try with_reducible rfl)
  try simp only [Act.put, List.setIfInBounds_toArray, List.set_cons_zero, List.set_cons_succ]
  refine wpAnyH_take (i := 4) (oi := { dst := some 24, op := Op.move (Operand.tmp 23), type := 4, pos := "words.go:157", after := #[{ on := 3, ground := Ground.data }], guard := none }) (v := ?v5_4) (by kernel_rfl) (by kernel_rfl) (by kernel_rfl) (by kernel_rfl) (fun _ _ _ h => h) (Or.inl ⟨by kernel_rfl, ?h5_4⟩) hHeld ?r5_4
  case h5_4 => (intro w hSw; (try dsimp only at hSw); go_simp; try with_reducible rfl)
  try simp only [Act.put, List.setIfInBounds_toArray, List.set_cons_zero, List.set_cons_succ]
  refine wpAnyH_take (i := 5) (oi := { dst := some 25, op := Op.move (Operand.tmp 0), type := 22, pos := "words.go:157", after := #[{ on := 4, ground := Ground.guard }], guard := some (4, true) }) (v := undef) (by kernel_rfl) (by kernel_rfl) (by kernel_rfl) (by kernel_rfl) (fun _ _ _ h => h) (Or.inr ⟨by kernel_rfl, rfl⟩) hHeld ?_
  try simp only [Act.put, List.setIfInBounds_toArray, List.set_cons_zero, List.set_cons_succ]
  refine wpAnyH_take (i := 6) (oi := { dst := some 26, op := Op.move (Operand.tmp 6), type := 3, pos := "words.go:157", after := #[{ on := 4, ground := Ground.guard }], guard := some (4, true) }) (v := undef) (by kernel_rfl) (by kernel_rfl) (by kernel_rfl) (by kernel_rfl) (fun _ _ _ h => h) (Or.inr ⟨by kernel_rfl, rfl⟩) hHeld ?_
  try simp only [Act.put, List.setIfInBounds_toArray, List.set_cons_zero, List.set_cons_succ]
  refine wpAnyH_take (i := 7) (oi := { dst := some 27, op := Op.indexAddr 22 (Operand.tmp 25) (Operand.tmp 26), type := 0, pos := "words.go:157", after := #[{ on := 5, ground := Ground.data }, { on := 6, ground := Ground.data }, { on := 4, ground := Ground.guard }], guard := some (4, true) }) (v := undef) (by kernel_rfl) (by kernel_rfl) (by kernel_rfl) (by kernel_rfl) (fun _ _ _ h => h) (Or.inr ⟨by kernel_rfl, rfl⟩) hHeld ?_
  try simp only [Act.put, List.setIfInBounds_toArray, List.set_cons_zero, List.set_cons_succ]
  refine wpAnyH_take (i := 8) (oi := { dst := some 28, op := Op.load 24 (Operand.tmp 27), type := 24, pos := "words.go:157", after := #[{ on := 7, ground := Ground.data }, { on := 4, ground := Ground.guard }], guard := some (4, true) }) (v := undef) (by kernel_rfl) (by kernel_rfl) (by kernel_rfl) (by kernel_rfl) (fun _ _ _ h => h) (Or.inr ⟨by kernel_rfl, rfl⟩) hHeld ?_
  try simp only [Act.put, List.setIfInBounds_toArray, List.set_cons_zero, List.set_cons_succ]
  refine wpAnyH_take (i := 9) (oi := { dst := some 29, op := Op.load 24 (Operand.tmp 3), type := 24, pos := "words.go:157", after := #[{ on := 4, ground := Ground.guard }], guard := some (4, true) }) (v := undef) (by kernel_rfl) (by kernel_rfl) (by kernel_rfl) (by kernel_rfl) (fun _ _ _ h => h) (Or.inr ⟨by kernel_rfl, rfl⟩) hHeld ?_
  try simp only [Act.put, List.setIfInBounds_toArray, List.set_cons_zero, List.set_cons_succ]
  refine wpAnyH_take (i := 10) (oi := { dst := some 30, op := Op.call { callee := Callee.value (Operand.func 41), args := #[Operand.tmp 28, Operand.tmp 29], argTypes := #[24, 24] }, type := 3, pos := "words.go:157", after := #[{ on := 8, ground := Ground.data }, { on := 9, ground := Ground.data }, { on := 4, ground := Ground.chain }, { on := 4, ground := Ground.guard }], guard := some (4, true) }) (v := undef) (by kernel_rfl) (by kernel_rfl) (by kernel_rfl) (by kernel_rfl) (fun _ _ _ h => h) (Or.inr ⟨by kernel_rfl, rfl⟩) hHeld ?_
  try simp only [Act.put, List.setIfInBounds_toArray, List.set_cons_zero, List.set_cons_succ]
  refine wpAnyH_take (i := 11) (oi := { dst := some 31, op := Op.binOp BinOp.eql 3 (Operand.tmp 30) (Operand.const (Value.int IntKind.i64 0)) 3, type := 4, pos := "words.go:157", after := #[{ on := 10, ground := Ground.data }, { on := 4, ground := Ground.guard }], guard := some (4, true) }) (v := undef) (by kernel_rfl) (by kernel_rfl) (by kernel_rfl) (by kernel_rfl) (fun _ _ _ h => h) (Or.inr ⟨by kernel_rfl, rfl⟩) hHeld ?_
  try simp only [Act.put, List.setIfInBounds_toArray, List.set_cons_zero, List.set_cons_succ]
  refine wpAnyH_take (i := 12) (oi := { dst := some 32, op := Op.pick (Operand.tmp 24) (Operand.tmp 31) (Operand.const (Value.bool false)), type := 4, pos := "words.go:157", after := #[{ on := 4, ground := Ground.data }, { on := 11, ground := Ground.data }], guard := none }) (v := ?v5_12) (by kernel_rfl) (by kernel_rfl) (by kernel_rfl) (by kernel_rfl) (fun _ _ _ h => h) (Or.inl ⟨by kernel_rfl, ?h5_12⟩) hHeld ?r5_12
  case h5_12 => (intro w hSw; (try dsimp only at hSw); go_simp; try with_reducible rfl)
  try simp only [Act.put, List.setIfInBounds_toArray, List.set_cons_zero, List.set_cons_succ]
  refine wpAnyH_take (i := 13) (oi := { dst := some 19, op := Op.assign (Operand.tmp 32), type := 4, pos := "words.go:157", after := #[{ on := 12, ground := Ground.data }, { on := 10, ground := Ground.chain }], guard := none }) (v := ?v5_13) (by kernel_rfl) (by kernel_rfl) (by kernel_rfl) (by kernel_rfl) (fun _ _ _ h => h) (Or.inl ⟨by kernel_rfl, ?h5_13⟩) hHeld ?r5_13
  case h5_13 => (intro w hSw; (try dsimp only at hSw); go_simp; try with_reducible rfl)
  try simp only [Act.put, List.setIfInBounds_toArray, List.set_cons_zero, List.set_cons_succ]
  refine wpAnyH_done (by kernel_rfl) ?_ _
  have hb6 := hHeld
  have hbk6 := hbk4.later hb6
  obtain ⟨m0, m1, m2⟩ := box_cells hbk6
  replace hb1 := below_then hb1 hb6
  clear hHeld hb6 k0 k1 k2
  all_goals go_wp2_with fail
  go_at_call 42; refine (contains_add2 l (ex, ec, esy) _ c w.heap.size _ (by omega) ((HRD.out).later hb1) hbk6.lt m0 m1 m2).mono ?_; rintro e' w7 ⟨rfl, hb7⟩; rw [HCL.out]
  have hbk7 := hbk6.later hb7
  replace hb1 := below_then hb1 hb7
  clear hb7 hbk6 m0 m1 m2
  obtain ⟨m0, m1, m2⟩ := box_cells hbk7
  have h100 : ((l.length : Int) == 100) = true := by rw [beq_iff_eq]; have := HN.out; omega
  go_wp2_with fail
  go_ret2
  rw [HXX.out]
  exact OwnPost.none_ 5 hb1
set_option maxRecDepth 100000 in
set_option maxHeartbeats 3200000 in
theorem add_ok_in (l : List Ent) (ex : List UInt8) (ec : UInt8) (esy : List UInt8) (A : Option Addr) (c : Nat) (w : World) (hl : l.length ≤ 100) (hw : ∀ x ∈ l, x.1.length ≤ 1048576) (hc : l.length ≤ c) (hr : Reads w w.heap.size 3 A l.length (flat l)) (hx : ex.length ≤ 1048576) (hv : validL l = true) (hrt : rightL (ex, ec, esy) = true) (hat : atL l (ex, ec, esy) < l.length) (hcm : cmpL (l.getD (atL l (ex, ec, esy)) ([], 0, [])) (ex, ec, esy) ≠ 0) (hcl : (l.any fun o => clashL o (ex, ec, esy)) = false) (hn : l.length ≠ 100) :
    Calls Tryz.prog 13 #[.slice A l.length c, entV (ex, ec, esy)] w (OwnPost w (addR l (ex, ec, esy)).1 (addR l (ex, ec, esy)).2) := by
  have HXX := Lib.hid (show addR l (ex, ec, esy) = (l.take (atL l (ex, ec, esy)) ++ (ex, ec, esy) :: l.drop (atL l (ex, ec, esy)), 0) by unfold addR; rw [if_pos (by rw [hv, hrt]; rfl), if_neg (fun h => hcm h.2)]; rw [if_neg (by rw [hcl]; simp), if_neg hn])
  have HCL := Lib.hid hcl; clear hcl
  generalize hR : addR l (ex, ec, esy) = R at HXX ⊢
  clear hR
  have HRD := Lib.hid hr; clear hr
  have HW := Lib.hid hw; clear hw
  have HV := Lib.hid hv; have HT := Lib.hid hrt; clear hv hrt
  have hbox : Hid (∀ W : World, W = w.alloc (.cells #[str ex, byteV ec, str esy] 24) → Blk W w.heap.size 24 #[str ex, byteV ec, str esy] ∧ Below w.heap.size w W) := fun W h => by subst h; exact ⟨Blk.new _ _ _, (Below.refl _ _).alloc (Nat.le_refl _) _⟩
  have hatl : atL l (ex, ec, esy) ≤ l.length := firstIdx_le _ _
  have HFG := Lib.hid (fun W hr hB h0 h1 h2 => find_ge l (ex, ec, esy) A c w.heap.size W (by omega) hr hB h0 h1 h2)
  generalize atL l (ex, ec, esy) = at_ at *
  go_enter Tryz.func13, Tryz.ntmps13
  go_wp2_with fail
  obtain ⟨W1, hW1⟩ : ∃ W1 : World, W1 = w.alloc (.cells #[str ex, byteV ec, str esy] 24) := ⟨_, rfl⟩
  obtain ⟨hbk, hb1⟩ := hbox.out W1 hW1
  rw [← hW1]
  clear hW1
  have hB0 : w.heap.size < W1.heap.size := hbk.lt
  obtain ⟨B0, hB00⟩ : ∃ B0, B0 = w.heap.size := ⟨_, rfl⟩
  go_at_call 39; refine ((HFG.out) W1 ((HRD.out).later hb1) hbk.lt (hbk.cell 0) (hbk.cell 1) (hbk.cell 2)).mono ?_; rintro e' w2 ⟨rfl, hb2⟩
  have hbk2 := hbk.later hb2
  replace hb1 := below_then hb1 hb2; clear hb2 hbk
  go_wp2_with fail
  go_at_call 17; refine (valid_any l A c _ (fun x h => by have := HW.out x h; omega) hc ((HRD.out).later hb1)).mono ?_; rintro e' w3 ⟨rfl, hb3⟩; rw [HV.out]
  have hbk3 := hbk2.later hb3
  replace hb1 := below_then hb1 hb3; clear hb3 hbk2
  obtain ⟨k0, k1, k2⟩ := box_cells hbk3
  go_wp2_with fail
  go_at_call 24; refine (right_any ex ec esy _ (by omega)).mono ?_; rintro e' w4 ⟨rfl, hb4⟩; rw [HT.out]
  have hbk4 := hbk3.later hb4
  replace hb1 := below_then hb1 hb4; clear hb4 hbk3 k0 k1 k2
  obtain ⟨k0, k1, k2⟩ := box_cells hbk4
  have hz4 := hbk4.lt
  go_wp2_with fail
  have hcm2 : (cmpL (l.getD at_ ([], 0, [])) (ex, ec, esy) == 0) = false := by rw [beq_eq_false_iff_ne]; exact hcm
  clear hcm
  have hcm := hcm2; clear hcm2
  obtain ⟨b, off, hA, hBq, q0, q1, q2⟩ := ((HRD.out).later hb1).ent (k := at_) hat
  cases hA
  have hqd : l.getD at_ ([], 0, []) = l[at_] := by simp [hat]
  rw [hqd] at hcm
  clear hqd
  generalize l[at_] = q at q0 q1 q2 hcm
  obtain ⟨qx, qc, qy⟩ := q
  have hS6 : S6 w4 w4 w.heap.size (ex, ec, esy) b (off + at_ * 3) (qx, qc, qy) := ⟨k0, k1, k2, hz4, Below.refl _ _, q0, q1, q2, hBq⟩
  have hi1 : (at_ : Int) < (l.length : Int) := by omega
  refine wp_region_held_drew (S := fun W => S6 w4 W w.heap.size (ex, ec, esy) b (off + at_ * 3) (qx, qc, qy)) (by kernel_rfl) (by exact start6 hS6) (fun hHeld => ?_)
  refine wpAnyH_take (i := 0) (oi := { dst := some 20, op := Op.move (Operand.tmp 6), type := 3, pos := "words.go:157", after := #[], guard := none }) (v := ?v6_0) (by kernel_rfl) (by kernel_rfl) (by kernel_rfl) (by kernel_rfl) (fun _ _ _ h => h) (Or.inl ⟨by kernel_rfl, ?h6_0⟩) hHeld ?r6_0
  case h6_0 => (intro w hSw; (try dsimp only at hSw); go_simp; try with_reducible rfl)
  try simp only [Act.put, List.setIfInBounds_toArray, List.set_cons_zero, List.set_cons_succ]
  refine wpAnyH_take (i := 1) (oi := { dst := some 21, op := Op.move (Operand.tmp 0), type := 22, pos := "words.go:157", after := #[], guard := none }) (v := ?v6_1) (by kernel_rfl) (by kernel_rfl) (by kernel_rfl) (by kernel_rfl) (fun _ _ _ h => h) (Or.inl ⟨by kernel_rfl, ?h6_1⟩) hHeld ?r6_1
  case h6_1 => (intro w hSw; (try dsimp only at hSw); go_simp; try with_reducible rfl)
  try simp only [Act.put, List.setIfInBounds_toArray, List.set_cons_zero, List.set_cons_succ]
  refine wpAnyH_take (i := 2) (oi := { dst := some 22, op := Op.call { callee := Callee.builtin Builtin.len, args := #[Operand.tmp 21], argTypes := #[22] }, type := 3, pos := "words.go:157", after := #[{ on := 1, ground := Ground.data }], guard := none }) (v := ?v6_2) (by kernel_rfl) (by kernel_rfl) (by kernel_rfl) (by kernel_rfl) (fun _ _ _ h => h) (Or.inl ⟨by kernel_rfl, ?h6_2⟩) hHeld ?r6_2
  case h6_2 => (intro w hSw; (try dsimp only at hSw); go_simp; try with_reducible rfl)
  try simp only [Act.put, List.setIfInBounds_toArray, List.set_cons_zero, List.set_cons_succ]
  refine wpAnyH_take (i := 3) (oi := { dst := some 23, op := Op.binOp BinOp.lss 3 (Operand.tmp 20) (Operand.tmp 22) 3, type := 4, pos := "words.go:157", after := #[{ on := 0, ground := Ground.data }, { on := 2, ground := Ground.data }], guard := none }) (v := ?v6_3) (by kernel_rfl) (by kernel_rfl) (by kernel_rfl) (by kernel_rfl) (fun _ _ _ h => h) (Or.inl ⟨by kernel_rfl, ?h6_3⟩) hHeld ?r6_3
  case h6_3 => (intro w hSw; (try dsimp only at hSw); go_simp; try with_reducible rfl)
  try simp only [Act.put, List.setIfInBounds_toArray, List.set_cons_zero, List.set_cons_succ]
  refine wpAnyH_take (i := 4) (oi := { dst := some 24, op := Op.move (Operand.tmp 23), type := 4, pos := "words.go:157", after := #[{ on := 3, ground := Ground.data }], guard := none }) (v := ?v6_4) (by kernel_rfl) (by kernel_rfl) (by kernel_rfl) (by kernel_rfl) (fun _ _ _ h => h) (Or.inl ⟨by kernel_rfl, ?h6_4⟩) hHeld ?r6_4
  case h6_4 => (intro w hSw; (try dsimp only at hSw); go_simp; try with_reducible rfl)
  try simp only [Act.put, List.setIfInBounds_toArray, List.set_cons_zero, List.set_cons_succ]
  refine wpAnyH_take (i := 5) (oi := { dst := some 25, op := Op.move (Operand.tmp 0), type := 22, pos := "words.go:157", after := #[{ on := 4, ground := Ground.guard }], guard := some (4, true) }) (v := ?v6_5) (by kernel_rfl) (by kernel_rfl) (by kernel_rfl) (by kernel_rfl) (fun _ _ _ h => h) (Or.inl ⟨by kernel_rfl, ?h6_5⟩) hHeld ?r6_5
  case h6_5 => (intro w hSw; (try dsimp only at hSw); go_simp; try with_reducible rfl)
  try simp only [Act.put, List.setIfInBounds_toArray, List.set_cons_zero, List.set_cons_succ]
  refine wpAnyH_take (i := 6) (oi := { dst := some 26, op := Op.move (Operand.tmp 6), type := 3, pos := "words.go:157", after := #[{ on := 4, ground := Ground.guard }], guard := some (4, true) }) (v := ?v6_6) (by kernel_rfl) (by kernel_rfl) (by kernel_rfl) (by kernel_rfl) (fun _ _ _ h => h) (Or.inl ⟨by kernel_rfl, ?h6_6⟩) hHeld ?r6_6
  case h6_6 => (intro w hSw; (try dsimp only at hSw); go_simp; try with_reducible rfl)
  try simp only [Act.put, List.setIfInBounds_toArray, List.set_cons_zero, List.set_cons_succ]
  refine wpAnyH_take (i := 7) (oi := { dst := some 27, op := Op.indexAddr 22 (Operand.tmp 25) (Operand.tmp 26), type := 0, pos := "words.go:157", after := #[{ on := 5, ground := Ground.data }, { on := 6, ground := Ground.data }, { on := 4, ground := Ground.guard }], guard := some (4, true) }) (v := ?v6_7) (by kernel_rfl) (by kernel_rfl) (by kernel_rfl) (by kernel_rfl) (fun _ _ _ h => h) (Or.inl ⟨by kernel_rfl, ?h6_7⟩) hHeld ?r6_7
  case h6_7 => (intro w hSw; (try dsimp only at hSw); go_simp; try with_reducible rfl)
  try simp only [Act.put, List.setIfInBounds_toArray, List.set_cons_zero, List.set_cons_succ]
  refine wpAnyH_take (i := 8) (oi := { dst := some 28, op := Op.load 24 (Operand.tmp 27), type := 24, pos := "words.go:157", after := #[{ on := 7, ground := Ground.data }, { on := 4, ground := Ground.guard }], guard := some (4, true) }) (v := ?v6_8) (by kernel_rfl) (by kernel_rfl) (by kernel_rfl) (by kernel_rfl) (fun _ _ _ h => h) (Or.inl ⟨by kernel_rfl, ?h6_8⟩) hHeld ?r6_8
  case h6_8 => (intro w hSw; (try dsimp only at hSw); go_simp; try with_reducible rfl)
  try simp only [Act.put, List.setIfInBounds_toArray, List.set_cons_zero, List.set_cons_succ]
  refine wpAnyH_take (i := 9) (oi := { dst := some 29, op := Op.load 24 (Operand.tmp 3), type := 24, pos := "words.go:157", after := #[{ on := 4, ground := Ground.guard }], guard := some (4, true) }) (v := ?v6_9) (by kernel_rfl) (by kernel_rfl) (by kernel_rfl) (by kernel_rfl) (fun _ _ _ h => h) (Or.inl ⟨by kernel_rfl, ?h6_9⟩) hHeld ?r6_9
  case h6_9 => (intro w hSw; (try dsimp only at hSw); go_simp; try with_reducible rfl)
  try simp only [Act.put, List.setIfInBounds_toArray, List.set_cons_zero, List.set_cons_succ]
  refine wpAnyH_ready (rs := [10]) (by kernel_rfl) (by simp) ?_
  refine AllReadyH.cons (i := 10) (o := { dst := some 30, op := Op.call { callee := Callee.value (Operand.func 41), args := #[Operand.tmp 28, Operand.tmp 29], argTypes := #[24, 24] }, type := 3, pos := "words.go:157", after := #[{ on := 8, ground := Ground.data }, { on := 9, ground := Ground.data }, { on := 4, ground := Ground.chain }, { on := 4, ground := Ground.guard }], guard := some (4, true) }) rfl (fun K hK => ?_) AllReadyH.nil
  go_simp
  refine (compare_any (qx, qc, qy) (ex, ec, esy) _).mono ?_
  rintro e' w5 ⟨rfl, hb5⟩
  go_wp2_with fail
  refine hK.out _ _ (by exact keep6 (by assumption) (by assumption)) (fun hHeld => ?_)
  clear hK K
  try simp only [Act.put, List.setIfInBounds_toArray, List.set_cons_zero, List.set_cons_succ]
  refine wpAnyH_take (i := 11) (oi := { dst := some 31, op := Op.binOp BinOp.eql 3 (Operand.tmp 30) (Operand.const (Value.int IntKind.i64 0)) 3, type := 4, pos := "words.go:157", after := #[{ on := 10, ground := Ground.data }, { on := 4, ground := Ground.guard }], guard := some (4, true) }) (v := ?v6_11) (by kernel_rfl) (by kernel_rfl) (by kernel_rfl) (by kernel_rfl) (fun _ _ _ h => h) (Or.inl ⟨by kernel_rfl, ?h6_11⟩) hHeld ?r6_11
  case h6_11 => (intro w hSw; (try dsimp only at hSw); go_simp; try with_reducible rfl)
  try simp only [Act.put, List.setIfInBounds_toArray, List.set_cons_zero, List.set_cons_succ]
  refine wpAnyH_take (i := 12) (oi := { dst := some 32, op := Op.pick (Operand.tmp 24) (Operand.tmp 31) (Operand.const (Value.bool false)), type := 4, pos := "words.go:157", after := #[{ on := 4, ground := Ground.data }, { on := 11, ground := Ground.data }], guard := none }) (v := ?v6_12) (by kernel_rfl) (by kernel_rfl) (by kernel_rfl) (by kernel_rfl) (fun _ _ _ h => h) (Or.inl ⟨by kernel_rfl, ?h6_12⟩) hHeld ?r6_12
  case h6_12 => (intro w hSw; (try dsimp only at hSw); go_simp; try with_reducible rfl)
  try simp only [Act.put, List.setIfInBounds_toArray, List.set_cons_zero, List.set_cons_succ]
  refine wpAnyH_take (i := 13) (oi := { dst := some 19, op := Op.assign (Operand.tmp 32), type := 4, pos := "words.go:157", after := #[{ on := 12, ground := Ground.data }, { on := 10, ground := Ground.chain }], guard := none }) (v := ?v6_13) (by kernel_rfl) (by kernel_rfl) (by kernel_rfl) (by kernel_rfl) (fun _ _ _ h => h) (Or.inl ⟨by kernel_rfl, ?h6_13⟩) hHeld ?r6_13
  case h6_13 => (intro w hSw; (try dsimp only at hSw); go_simp; try with_reducible rfl)
  try simp only [Act.put, List.setIfInBounds_toArray, List.set_cons_zero, List.set_cons_succ]
  refine wpAnyH_done (by kernel_rfl) ?_ _
  have hb6 := hHeld.2.2.2.2.1
  have hbk6 := hbk4.later hb6
  obtain ⟨m0, m1, m2⟩ := box_cells hbk6
  replace hb1 := below_then hb1 hb6
  clear hHeld hb6 k0 k1 k2
  all_goals go_wp2_with fail
  go_at_call 42; refine (contains_add2 l (ex, ec, esy) _ c w.heap.size _ (by omega) ((HRD.out).later hb1) hbk6.lt m0 m1 m2).mono ?_; rintro e' w7 ⟨rfl, hb7⟩; rw [HCL.out]
  have hbk7 := hbk6.later hb7
  replace hb1 := below_then hb1 hb7
  clear hb7 hbk6 m0 m1 m2
  obtain ⟨m0, m1, m2⟩ := box_cells hbk7
  have h100 : ((l.length : Int) == 100) = false := by rw [beq_eq_false_iff_ne]; omega
  have HRW := Lib.hid ((HRD.out).later hb1)
  have HBX := Lib.hid (fun (W : World) (h : Below w7.heap.size w7 W) => box_cells (hbk7.later h))
  go_wp2_with fail
  refine wp_region_held_drew (S := fun W => Below w7.heap.size w7 W) (by kernel_rfl) (by exact (Below.refl _ _).drew) (fun hHeld => ?_)
  refine wpAnyH_take (i := 0) (oi := { dst := some 41, op := Op.move (Operand.tmp 0), type := 22, pos := "words.go:164", after := #[], guard := none }) (v := ?v7_0) (by kernel_rfl) (by kernel_rfl) (by kernel_rfl) (by kernel_rfl) (fun _ _ _ h => h) (Or.inl ⟨by kernel_rfl, ?h7_0⟩) hHeld ?r7_0
  case h7_0 => (intro w hSw; (try dsimp only at hSw); go_simp; try with_reducible rfl)
  try simp only [Act.put, List.setIfInBounds_toArray, List.set_cons_zero, List.set_cons_succ]
  refine wpAnyH_take (i := 2) (oi := { dst := some 43, op := Op.move (Operand.tmp 6), type := 3, pos := "words.go:164", after := #[], guard := none }) (v := ?v7_2) (by kernel_rfl) (by kernel_rfl) (by kernel_rfl) (by kernel_rfl) (fun _ _ _ h => h) (Or.inl ⟨by kernel_rfl, ?h7_2⟩) hHeld ?r7_2
  case h7_2 => (intro w hSw; (try dsimp only at hSw); go_simp; try with_reducible rfl)
  try simp only [Act.put, List.setIfInBounds_toArray, List.set_cons_zero, List.set_cons_succ]
  refine wpAnyH_take (i := 3) (oi := { dst := some 44, op := Op.load 24 (Operand.tmp 3), type := 24, pos := "words.go:164", after := #[], guard := none }) (v := ?v7_3) (by kernel_rfl) (by kernel_rfl) (by kernel_rfl) (by kernel_rfl) (fun _ _ _ h => h) (Or.inl ⟨by kernel_rfl, ?h7_3⟩) hHeld ?r7_3
  case h7_3 => (intro w hSw; (try dsimp only at hSw); obtain ⟨p0, p1, p2⟩ := HBX.out _ hSw; go_simp; try with_reducible rfl)
  try simp only [Act.put, List.setIfInBounds_toArray, List.set_cons_zero, List.set_cons_succ]
  refine wpAnyH_ready (rs := [1, 4]) (by kernel_rfl) (by simp) ?_
  refine AllReadyH.cons (i := 1) (o := { dst := some 42, op := Op.call { callee := Callee.value (Operand.func 46), args := #[Operand.tmp 41], argTypes := #[22] }, type := 22, pos := "words.go:164", after := #[{ on := 0, ground := Ground.data }], guard := none }) rfl (fun K hK => ?_) (AllReadyH.cons (i := 4) (o := { dst := some 45, op := Op.buildSlice 22 1 #[(0, Operand.tmp 44)], type := 22, pos := "words.go:164", after := #[{ on := 3, ground := Ground.data }], guard := none }) rfl (fun K hK => ?_) AllReadyH.nil)
  · skip
    go_simp
    refine (cloneE_any l _ c _ (by omega) ((HRW.out).later hHeld)).mono ?_
    rintro e8 w8 ⟨v8, rfl, hown8, hb8⟩
    have hKeep : Below w7.heap.size w7 w8 := hHeld.trans (hb8.mono hHeld.size)
    have hsz8 := hHeld.size
    have HO8 := own_less hown8 hsz8
    go_wp2_with fail
    refine hK.out _ _ (by exact hKeep) (fun hHeld => ?_)
    clear hK K
    try simp only [Act.put, List.setIfInBounds_toArray, List.set_cons_zero, List.set_cons_succ]
    refine wpAnyH_ready (rs := [4]) (by kernel_rfl) (by simp) ?_
    refine AllReadyH.cons (i := 4) (o := { dst := some 45, op := Op.buildSlice 22 1 #[(0, Operand.tmp 44)], type := 22, pos := "words.go:164", after := #[{ on := 3, ground := Ground.data }], guard := none }) rfl (fun K hK => ?_) AllReadyH.nil
    go_simp
    have HB9 := Blk.new w8 24 #[str ex, byteV ec, str esy]
    have HO9 := HO8.alloc (.cells #[str ex, byteV ec, str esy] 24)
    have hne : v8.ownBlock ≠ some w8.heap.size := (fun h => Nat.lt_irrefl _ (own_ltE hown8 _ h))
    have hKeep := Below.alloc hHeld hHeld.size (.cells #[str ex, byteV ec, str esy] 24)
    refine hK.out _ _ (by exact hKeep) (fun hHeld => ?_)
    clear hK K
    try simp only [Act.put, List.setIfInBounds_toArray, List.set_cons_zero, List.set_cons_succ]
    refine wpAnyH_ready (rs := [5]) (by kernel_rfl) (by simp) ?_
    refine AllReadyH.cons (i := 5) (o := { dst := some 46, op := Op.call { callee := Callee.value (Operand.func 45), args := #[Operand.tmp 42, Operand.tmp 43, Operand.tmp 45], argTypes := #[22, 3, 22] }, type := 22, pos := "words.go:164", after := #[{ on := 1, ground := Ground.data }, { on := 2, ground := Ground.data }, { on := 4, ground := Ground.data }, { on := 1, ground := Ground.chain }], guard := none }) rfl (fun K hK => ?_) AllReadyH.nil
    go_simp
    refine (insertE_any l (ex, ec, esy) at_ v8 _ 1 w7.heap.size _ hatl (by omega) HO9 HB9 hne hHeld.size).mono ?_
    rintro e9 w9 ⟨v9, rfl, hown9, hb9⟩
    obtain ⟨A9, c9, rfl, hc9, ho9⟩ := own_put hown9
    have hKeep : Below w7.heap.size w7 w9 := hHeld.trans hb9
    go_wp2_with fail
    refine hK.out _ _ (by exact hKeep) (fun hHeld => ?_)
    clear hK K
    try simp only [Act.put, List.setIfInBounds_toArray, List.set_cons_zero, List.set_cons_succ]
    refine wpAnyH_take (i := 6) (oi := { dst := some 4, op := Op.assign (Operand.tmp 46), type := 22, pos := "words.go:164", after := #[{ on := 5, ground := Ground.data }, { on := 5, ground := Ground.chain }, { on := 0, ground := Ground.phase }, { on := 1, ground := Ground.phase }, { on := 2, ground := Ground.phase }, { on := 3, ground := Ground.phase }, { on := 4, ground := Ground.phase }, { on := 5, ground := Ground.phase }], guard := none }) (v := ?v8_6) (by kernel_rfl) (by kernel_rfl) (by kernel_rfl) (by kernel_rfl) (fun _ _ _ h => h) (Or.inl ⟨by kernel_rfl, ?h8_6⟩) hHeld ?r8_6
    case h8_6 => (intro w hSw; (try dsimp only at hSw); go_simp; try with_reducible rfl)
    try simp only [Act.put, List.setIfInBounds_toArray, List.set_cons_zero, List.set_cons_succ]
    refine wpAnyH_take (i := 7) (oi := { dst := some 5, op := Op.assign (Operand.const (Value.int IntKind.i64 0)), type := 31, pos := "words.go:164", after := #[{ on := 6, ground := Ground.chain }, { on := 0, ground := Ground.phase }, { on := 1, ground := Ground.phase }, { on := 2, ground := Ground.phase }, { on := 3, ground := Ground.phase }, { on := 4, ground := Ground.phase }, { on := 5, ground := Ground.phase }, { on := 6, ground := Ground.phase }], guard := none }) (v := ?v8_7) (by kernel_rfl) (by kernel_rfl) (by kernel_rfl) (by kernel_rfl) (fun _ _ _ h => h) (Or.inl ⟨by kernel_rfl, ?h8_7⟩) hHeld ?r8_7
    case h8_7 => (intro w hSw; (try dsimp only at hSw); go_simp; try with_reducible rfl)
    try simp only [Act.put, List.setIfInBounds_toArray, List.set_cons_zero, List.set_cons_succ]
    refine wpAnyH_done (by kernel_rfl) ?_ _
    go_wp2_with fail
    go_ret2
    rw [HXX.out]
    exact ok_post hatl hc9 (own_less ho9 hb1.size) (below_then hb1 hHeld)
  · skip
    go_simp
    have HB9 := (Blk.new w7 24 #[str ex, byteV ec, str esy]).drew
    have hKeep := Below.alloc hHeld hHeld.size (.cells #[str ex, byteV ec, str esy] 24)
    refine hK.out _ _ (by exact hKeep) (fun hHeld => ?_)
    clear hK K
    try simp only [Act.put, List.setIfInBounds_toArray, List.set_cons_zero, List.set_cons_succ]
    refine wpAnyH_ready (rs := [1]) (by kernel_rfl) (by simp) ?_
    refine AllReadyH.cons (i := 1) (o := { dst := some 42, op := Op.call { callee := Callee.value (Operand.func 46), args := #[Operand.tmp 41], argTypes := #[22] }, type := 22, pos := "words.go:164", after := #[{ on := 0, ground := Ground.data }], guard := none }) rfl (fun K hK => ?_) AllReadyH.nil
    go_simp
    refine (cloneE_any l _ c _ (by omega) ((HRW.out).later hHeld)).mono ?_
    rintro e8 w8 ⟨v8, rfl, hown8, hb8⟩
    have hKeep : Below w7.heap.size w7 w8 := hHeld.trans (hb8.mono hHeld.size)
    have hsz8 := hHeld.size
    have HO8 := own_less hown8 hsz8
    have HO9 := HO8
    have HB8 := HB9.later hb8
    have hne : v8.ownBlock ≠ some w7.heap.size := (fun h => by have := own_geE hown8 _ h; simp at this; omega)
    go_wp2_with fail
    refine hK.out _ _ (by exact hKeep) (fun hHeld => ?_)
    clear hK K
    try simp only [Act.put, List.setIfInBounds_toArray, List.set_cons_zero, List.set_cons_succ]
    refine wpAnyH_ready (rs := [5]) (by kernel_rfl) (by simp) ?_
    refine AllReadyH.cons (i := 5) (o := { dst := some 46, op := Op.call { callee := Callee.value (Operand.func 45), args := #[Operand.tmp 42, Operand.tmp 43, Operand.tmp 45], argTypes := #[22, 3, 22] }, type := 22, pos := "words.go:164", after := #[{ on := 1, ground := Ground.data }, { on := 2, ground := Ground.data }, { on := 4, ground := Ground.data }, { on := 1, ground := Ground.chain }], guard := none }) rfl (fun K hK => ?_) AllReadyH.nil
    go_simp
    refine (insertE_any l (ex, ec, esy) at_ v8 _ 1 w7.heap.size _ hatl (by omega) HO9 HB8 hne hHeld.size).mono ?_
    rintro e9 w9 ⟨v9, rfl, hown9, hb9⟩
    obtain ⟨A9, c9, rfl, hc9, ho9⟩ := own_put hown9
    have hKeep : Below w7.heap.size w7 w9 := hHeld.trans hb9
    go_wp2_with fail
    refine hK.out _ _ (by exact hKeep) (fun hHeld => ?_)
    clear hK K
    try simp only [Act.put, List.setIfInBounds_toArray, List.set_cons_zero, List.set_cons_succ]
    refine wpAnyH_take (i := 6) (oi := { dst := some 4, op := Op.assign (Operand.tmp 46), type := 22, pos := "words.go:164", after := #[{ on := 5, ground := Ground.data }, { on := 5, ground := Ground.chain }, { on := 0, ground := Ground.phase }, { on := 1, ground := Ground.phase }, { on := 2, ground := Ground.phase }, { on := 3, ground := Ground.phase }, { on := 4, ground := Ground.phase }, { on := 5, ground := Ground.phase }], guard := none }) (v := ?v9_6) (by kernel_rfl) (by kernel_rfl) (by kernel_rfl) (by kernel_rfl) (fun _ _ _ h => h) (Or.inl ⟨by kernel_rfl, ?h9_6⟩) hHeld ?r9_6
    case h9_6 => (intro w hSw; (try dsimp only at hSw); go_simp; try with_reducible rfl)
    try simp only [Act.put, List.setIfInBounds_toArray, List.set_cons_zero, List.set_cons_succ]
    refine wpAnyH_take (i := 7) (oi := { dst := some 5, op := Op.assign (Operand.const (Value.int IntKind.i64 0)), type := 31, pos := "words.go:164", after := #[{ on := 6, ground := Ground.chain }, { on := 0, ground := Ground.phase }, { on := 1, ground := Ground.phase }, { on := 2, ground := Ground.phase }, { on := 3, ground := Ground.phase }, { on := 4, ground := Ground.phase }, { on := 5, ground := Ground.phase }, { on := 6, ground := Ground.phase }], guard := none }) (v := ?v9_7) (by kernel_rfl) (by kernel_rfl) (by kernel_rfl) (by kernel_rfl) (fun _ _ _ h => h) (Or.inl ⟨by kernel_rfl, ?h9_7⟩) hHeld ?r9_7
    case h9_7 => (intro w hSw; (try dsimp only at hSw); go_simp; try with_reducible rfl)
    try simp only [Act.put, List.setIfInBounds_toArray, List.set_cons_zero, List.set_cons_succ]
    refine wpAnyH_done (by kernel_rfl) ?_ _
    go_wp2_with fail
    go_ret2
    rw [HXX.out]
    exact ok_post hatl hc9 (own_less ho9 hb1.size) (below_then hb1 hHeld)
set_option maxRecDepth 100000 in
set_option maxHeartbeats 3200000 in
theorem add_ok_end (l : List Ent) (ex : List UInt8) (ec : UInt8) (esy : List UInt8) (A : Option Addr) (c : Nat) (w : World) (hl : l.length ≤ 100) (hw : ∀ x ∈ l, x.1.length ≤ 1048576) (hc : l.length ≤ c) (hr : Reads w w.heap.size 3 A l.length (flat l)) (hx : ex.length ≤ 1048576) (hv : validL l = true) (hrt : rightL (ex, ec, esy) = true) (hat : atL l (ex, ec, esy) = l.length) (hcl : (l.any fun o => clashL o (ex, ec, esy)) = false) (hn : l.length ≠ 100) :
    Calls Tryz.prog 13 #[.slice A l.length c, entV (ex, ec, esy)] w (OwnPost w (addR l (ex, ec, esy)).1 (addR l (ex, ec, esy)).2) := by
  have HXX := Lib.hid (show addR l (ex, ec, esy) = (l.take (atL l (ex, ec, esy)) ++ (ex, ec, esy) :: l.drop (atL l (ex, ec, esy)), 0) by unfold addR; rw [if_pos (by rw [hv, hrt]; rfl), if_neg (fun h => absurd h.1 (by omega))]; rw [if_neg (by rw [hcl]; simp), if_neg hn])
  have HCL := Lib.hid hcl; clear hcl
  have HAT := Lib.hid hat; clear hat
  generalize hR : addR l (ex, ec, esy) = R at HXX ⊢
  clear hR
  have HRD := Lib.hid hr; clear hr
  have HW := Lib.hid hw; clear hw
  have HV := Lib.hid hv; have HT := Lib.hid hrt; clear hv hrt
  have hbox : Hid (∀ W : World, W = w.alloc (.cells #[str ex, byteV ec, str esy] 24) → Blk W w.heap.size 24 #[str ex, byteV ec, str esy] ∧ Below w.heap.size w W) := fun W h => by subst h; exact ⟨Blk.new _ _ _, (Below.refl _ _).alloc (Nat.le_refl _) _⟩
  have hatl : atL l (ex, ec, esy) ≤ l.length := firstIdx_le _ _
  have HFG := Lib.hid (fun W hr hB h0 h1 h2 => find_ge l (ex, ec, esy) A c w.heap.size W (by omega) hr hB h0 h1 h2)
  generalize atL l (ex, ec, esy) = at_ at *
  go_enter Tryz.func13, Tryz.ntmps13
  go_wp2_with fail
  obtain ⟨W1, hW1⟩ : ∃ W1 : World, W1 = w.alloc (.cells #[str ex, byteV ec, str esy] 24) := ⟨_, rfl⟩
  obtain ⟨hbk, hb1⟩ := hbox.out W1 hW1
  rw [← hW1]
  clear hW1
  have hB0 : w.heap.size < W1.heap.size := hbk.lt
  obtain ⟨B0, hB00⟩ : ∃ B0, B0 = w.heap.size := ⟨_, rfl⟩
  go_at_call 39; refine ((HFG.out) W1 ((HRD.out).later hb1) hbk.lt (hbk.cell 0) (hbk.cell 1) (hbk.cell 2)).mono ?_; rintro e' w2 ⟨rfl, hb2⟩
  have hbk2 := hbk.later hb2
  replace hb1 := below_then hb1 hb2; clear hb2 hbk
  go_wp2_with fail
  go_at_call 17; refine (valid_any l A c _ (fun x h => by have := HW.out x h; omega) hc ((HRD.out).later hb1)).mono ?_; rintro e' w3 ⟨rfl, hb3⟩; rw [HV.out]
  have hbk3 := hbk2.later hb3
  replace hb1 := below_then hb1 hb3; clear hb3 hbk2
  obtain ⟨k0, k1, k2⟩ := box_cells hbk3
  go_wp2_with fail
  go_at_call 24; refine (right_any ex ec esy _ (by omega)).mono ?_; rintro e' w4 ⟨rfl, hb4⟩; rw [HT.out]
  have hbk4 := hbk3.later hb4
  replace hb1 := below_then hb1 hb4; clear hb4 hbk3 k0 k1 k2
  obtain ⟨k0, k1, k2⟩ := box_cells hbk4
  have hz4 := hbk4.lt
  go_wp2_with fail
  have hi1 : ¬ (at_ : Int) < (l.length : Int) := by have := HAT.out; omega
  have hst4 : Below w4.heap.size w4 w4.drew := (Below.refl _ _).drew
  refine wp_region_held_drew (S := fun W => Below w4.heap.size w4 W) (by kernel_rfl) (by exact hst4) (fun hHeld => ?_)
  refine wpAnyH_take (i := 0) (oi := { dst := some 20, op := Op.move (Operand.tmp 6), type := 3, pos := "words.go:157", after := #[], guard := none }) (v := ?v10_0) (by kernel_rfl) (by kernel_rfl) (by kernel_rfl) (by kernel_rfl) (fun _ _ _ h => h) (Or.inl ⟨by kernel_rfl, ?h10_0⟩) hHeld ?r10_0
  case h10_0 => (intro w hSw; (try dsimp only at hSw); go_simp; try with_reducible rfl)
  try simp only [Act.put, List.setIfInBounds_toArray, List.set_cons_zero, List.set_cons_succ]
  refine wpAnyH_take (i := 1) (oi := { dst := some 21, op := Op.move (Operand.tmp 0), type := 22, pos := "words.go:157", after := #[], guard := none }) (v := ?v10_1) (by kernel_rfl) (by kernel_rfl) (by kernel_rfl) (by kernel_rfl) (fun _ _ _ h => h) (Or.inl ⟨by kernel_rfl, ?h10_1⟩) hHeld ?r10_1
  case h10_1 => (intro w hSw; (try dsimp only at hSw); go_simp; try with_reducible rfl)
  try simp only [Act.put, List.setIfInBounds_toArray, List.set_cons_zero, List.set_cons_succ]
  refine wpAnyH_take (i := 2) (oi := { dst := some 22, op := Op.call { callee := Callee.builtin Builtin.len, args := #[Operand.tmp 21], argTypes := #[22] }, type := 3, pos := "words.go:157", after := #[{ on := 1, ground := Ground.data }], guard := none }) (v := ?v10_2) (by kernel_rfl) (by kernel_rfl) (by kernel_rfl) (by kernel_rfl) (fun _ _ _ h => h) (Or.inl ⟨by kernel_rfl, ?h10_2⟩) hHeld ?r10_2
  case h10_2 => (intro w hSw; (try dsimp only at hSw); go_simp; try with_reducible rfl)
  try simp only [Act.put, List.setIfInBounds_toArray, List.set_cons_zero, List.set_cons_succ]
  refine wpAnyH_take (i := 3) (oi := { dst := some 23, op := Op.binOp BinOp.lss 3 (Operand.tmp 20) (Operand.tmp 22) 3, type := 4, pos := "words.go:157", after := #[{ on := 0, ground := Ground.data }, { on := 2, ground := Ground.data }], guard := none }) (v := ?v10_3) (by kernel_rfl) (by kernel_rfl) (by kernel_rfl) (by kernel_rfl) (fun _ _ _ h => h) (Or.inl ⟨by kernel_rfl, ?h10_3⟩) hHeld ?r10_3
  case h10_3 => (intro w hSw; (try dsimp only at hSw); go_simp; try with_reducible rfl)
  try simp only [Act.put, List.setIfInBounds_toArray, List.set_cons_zero, List.set_cons_succ]
  refine wpAnyH_take (i := 4) (oi := { dst := some 24, op := Op.move (Operand.tmp 23), type := 4, pos := "words.go:157", after := #[{ on := 3, ground := Ground.data }], guard := none }) (v := ?v10_4) (by kernel_rfl) (by kernel_rfl) (by kernel_rfl) (by kernel_rfl) (fun _ _ _ h => h) (Or.inl ⟨by kernel_rfl, ?h10_4⟩) hHeld ?r10_4
  case h10_4 => (intro w hSw; (try dsimp only at hSw); go_simp; try with_reducible rfl)
  try simp only [Act.put, List.setIfInBounds_toArray, List.set_cons_zero, List.set_cons_succ]
  refine wpAnyH_take (i := 5) (oi := { dst := some 25, op := Op.move (Operand.tmp 0), type := 22, pos := "words.go:157", after := #[{ on := 4, ground := Ground.guard }], guard := some (4, true) }) (v := undef) (by kernel_rfl) (by kernel_rfl) (by kernel_rfl) (by kernel_rfl) (fun _ _ _ h => h) (Or.inr ⟨by kernel_rfl, rfl⟩) hHeld ?_
  try simp only [Act.put, List.setIfInBounds_toArray, List.set_cons_zero, List.set_cons_succ]
  refine wpAnyH_take (i := 6) (oi := { dst := some 26, op := Op.move (Operand.tmp 6), type := 3, pos := "words.go:157", after := #[{ on := 4, ground := Ground.guard }], guard := some (4, true) }) (v := undef) (by kernel_rfl) (by kernel_rfl) (by kernel_rfl) (by kernel_rfl) (fun _ _ _ h => h) (Or.inr ⟨by kernel_rfl, rfl⟩) hHeld ?_
  try simp only [Act.put, List.setIfInBounds_toArray, List.set_cons_zero, List.set_cons_succ]
  refine wpAnyH_take (i := 7) (oi := { dst := some 27, op := Op.indexAddr 22 (Operand.tmp 25) (Operand.tmp 26), type := 0, pos := "words.go:157", after := #[{ on := 5, ground := Ground.data }, { on := 6, ground := Ground.data }, { on := 4, ground := Ground.guard }], guard := some (4, true) }) (v := undef) (by kernel_rfl) (by kernel_rfl) (by kernel_rfl) (by kernel_rfl) (fun _ _ _ h => h) (Or.inr ⟨by kernel_rfl, rfl⟩) hHeld ?_
  try simp only [Act.put, List.setIfInBounds_toArray, List.set_cons_zero, List.set_cons_succ]
  refine wpAnyH_take (i := 8) (oi := { dst := some 28, op := Op.load 24 (Operand.tmp 27), type := 24, pos := "words.go:157", after := #[{ on := 7, ground := Ground.data }, { on := 4, ground := Ground.guard }], guard := some (4, true) }) (v := undef) (by kernel_rfl) (by kernel_rfl) (by kernel_rfl) (by kernel_rfl) (fun _ _ _ h => h) (Or.inr ⟨by kernel_rfl, rfl⟩) hHeld ?_
  try simp only [Act.put, List.setIfInBounds_toArray, List.set_cons_zero, List.set_cons_succ]
  refine wpAnyH_take (i := 9) (oi := { dst := some 29, op := Op.load 24 (Operand.tmp 3), type := 24, pos := "words.go:157", after := #[{ on := 4, ground := Ground.guard }], guard := some (4, true) }) (v := undef) (by kernel_rfl) (by kernel_rfl) (by kernel_rfl) (by kernel_rfl) (fun _ _ _ h => h) (Or.inr ⟨by kernel_rfl, rfl⟩) hHeld ?_
  try simp only [Act.put, List.setIfInBounds_toArray, List.set_cons_zero, List.set_cons_succ]
  refine wpAnyH_take (i := 10) (oi := { dst := some 30, op := Op.call { callee := Callee.value (Operand.func 41), args := #[Operand.tmp 28, Operand.tmp 29], argTypes := #[24, 24] }, type := 3, pos := "words.go:157", after := #[{ on := 8, ground := Ground.data }, { on := 9, ground := Ground.data }, { on := 4, ground := Ground.chain }, { on := 4, ground := Ground.guard }], guard := some (4, true) }) (v := undef) (by kernel_rfl) (by kernel_rfl) (by kernel_rfl) (by kernel_rfl) (fun _ _ _ h => h) (Or.inr ⟨by kernel_rfl, rfl⟩) hHeld ?_
  try simp only [Act.put, List.setIfInBounds_toArray, List.set_cons_zero, List.set_cons_succ]
  refine wpAnyH_take (i := 11) (oi := { dst := some 31, op := Op.binOp BinOp.eql 3 (Operand.tmp 30) (Operand.const (Value.int IntKind.i64 0)) 3, type := 4, pos := "words.go:157", after := #[{ on := 10, ground := Ground.data }, { on := 4, ground := Ground.guard }], guard := some (4, true) }) (v := undef) (by kernel_rfl) (by kernel_rfl) (by kernel_rfl) (by kernel_rfl) (fun _ _ _ h => h) (Or.inr ⟨by kernel_rfl, rfl⟩) hHeld ?_
  try simp only [Act.put, List.setIfInBounds_toArray, List.set_cons_zero, List.set_cons_succ]
  refine wpAnyH_take (i := 12) (oi := { dst := some 32, op := Op.pick (Operand.tmp 24) (Operand.tmp 31) (Operand.const (Value.bool false)), type := 4, pos := "words.go:157", after := #[{ on := 4, ground := Ground.data }, { on := 11, ground := Ground.data }], guard := none }) (v := ?v10_12) (by kernel_rfl) (by kernel_rfl) (by kernel_rfl) (by kernel_rfl) (fun _ _ _ h => h) (Or.inl ⟨by kernel_rfl, ?h10_12⟩) hHeld ?r10_12
  case h10_12 => (intro w hSw; (try dsimp only at hSw); go_simp; try with_reducible rfl)
  try simp only [Act.put, List.setIfInBounds_toArray, List.set_cons_zero, List.set_cons_succ]
  refine wpAnyH_take (i := 13) (oi := { dst := some 19, op := Op.assign (Operand.tmp 32), type := 4, pos := "words.go:157", after := #[{ on := 12, ground := Ground.data }, { on := 10, ground := Ground.chain }], guard := none }) (v := ?v10_13) (by kernel_rfl) (by kernel_rfl) (by kernel_rfl) (by kernel_rfl) (fun _ _ _ h => h) (Or.inl ⟨by kernel_rfl, ?h10_13⟩) hHeld ?r10_13
  case h10_13 => (intro w hSw; (try dsimp only at hSw); go_simp; try with_reducible rfl)
  try simp only [Act.put, List.setIfInBounds_toArray, List.set_cons_zero, List.set_cons_succ]
  refine wpAnyH_done (by kernel_rfl) ?_ _
  have hb6 := hHeld
  have hbk6 := hbk4.later hb6
  obtain ⟨m0, m1, m2⟩ := box_cells hbk6
  replace hb1 := below_then hb1 hb6
  clear hHeld hb6 k0 k1 k2
  all_goals go_wp2_with fail
  go_at_call 42; refine (contains_add2 l (ex, ec, esy) _ c w.heap.size _ (by omega) ((HRD.out).later hb1) hbk6.lt m0 m1 m2).mono ?_; rintro e' w7 ⟨rfl, hb7⟩; rw [HCL.out]
  have hbk7 := hbk6.later hb7
  replace hb1 := below_then hb1 hb7
  clear hb7 hbk6 m0 m1 m2
  obtain ⟨m0, m1, m2⟩ := box_cells hbk7
  have h100 : ((l.length : Int) == 100) = false := by rw [beq_eq_false_iff_ne]; omega
  have HRW := Lib.hid ((HRD.out).later hb1)
  have HBX := Lib.hid (fun (W : World) (h : Below w7.heap.size w7 W) => box_cells (hbk7.later h))
  go_wp2_with fail
  refine wp_region_held_drew (S := fun W => Below w7.heap.size w7 W) (by kernel_rfl) (by exact (Below.refl _ _).drew) (fun hHeld => ?_)
  refine wpAnyH_take (i := 0) (oi := { dst := some 41, op := Op.move (Operand.tmp 0), type := 22, pos := "words.go:164", after := #[], guard := none }) (v := ?v11_0) (by kernel_rfl) (by kernel_rfl) (by kernel_rfl) (by kernel_rfl) (fun _ _ _ h => h) (Or.inl ⟨by kernel_rfl, ?h11_0⟩) hHeld ?r11_0
  case h11_0 => (intro w hSw; (try dsimp only at hSw); go_simp; try with_reducible rfl)
  try simp only [Act.put, List.setIfInBounds_toArray, List.set_cons_zero, List.set_cons_succ]
  refine wpAnyH_take (i := 2) (oi := { dst := some 43, op := Op.move (Operand.tmp 6), type := 3, pos := "words.go:164", after := #[], guard := none }) (v := ?v11_2) (by kernel_rfl) (by kernel_rfl) (by kernel_rfl) (by kernel_rfl) (fun _ _ _ h => h) (Or.inl ⟨by kernel_rfl, ?h11_2⟩) hHeld ?r11_2
  case h11_2 => (intro w hSw; (try dsimp only at hSw); go_simp; try with_reducible rfl)
  try simp only [Act.put, List.setIfInBounds_toArray, List.set_cons_zero, List.set_cons_succ]
  refine wpAnyH_take (i := 3) (oi := { dst := some 44, op := Op.load 24 (Operand.tmp 3), type := 24, pos := "words.go:164", after := #[], guard := none }) (v := ?v11_3) (by kernel_rfl) (by kernel_rfl) (by kernel_rfl) (by kernel_rfl) (fun _ _ _ h => h) (Or.inl ⟨by kernel_rfl, ?h11_3⟩) hHeld ?r11_3
  case h11_3 => (intro w hSw; (try dsimp only at hSw); obtain ⟨p0, p1, p2⟩ := HBX.out _ hSw; go_simp; try with_reducible rfl)
  try simp only [Act.put, List.setIfInBounds_toArray, List.set_cons_zero, List.set_cons_succ]
  refine wpAnyH_ready (rs := [1, 4]) (by kernel_rfl) (by simp) ?_
  refine AllReadyH.cons (i := 1) (o := { dst := some 42, op := Op.call { callee := Callee.value (Operand.func 46), args := #[Operand.tmp 41], argTypes := #[22] }, type := 22, pos := "words.go:164", after := #[{ on := 0, ground := Ground.data }], guard := none }) rfl (fun K hK => ?_) (AllReadyH.cons (i := 4) (o := { dst := some 45, op := Op.buildSlice 22 1 #[(0, Operand.tmp 44)], type := 22, pos := "words.go:164", after := #[{ on := 3, ground := Ground.data }], guard := none }) rfl (fun K hK => ?_) AllReadyH.nil)
  · skip
    go_simp
    refine (cloneE_any l _ c _ (by omega) ((HRW.out).later hHeld)).mono ?_
    rintro e8 w8 ⟨v8, rfl, hown8, hb8⟩
    have hKeep : Below w7.heap.size w7 w8 := hHeld.trans (hb8.mono hHeld.size)
    have hsz8 := hHeld.size
    have HO8 := own_less hown8 hsz8
    go_wp2_with fail
    refine hK.out _ _ (by exact hKeep) (fun hHeld => ?_)
    clear hK K
    try simp only [Act.put, List.setIfInBounds_toArray, List.set_cons_zero, List.set_cons_succ]
    refine wpAnyH_ready (rs := [4]) (by kernel_rfl) (by simp) ?_
    refine AllReadyH.cons (i := 4) (o := { dst := some 45, op := Op.buildSlice 22 1 #[(0, Operand.tmp 44)], type := 22, pos := "words.go:164", after := #[{ on := 3, ground := Ground.data }], guard := none }) rfl (fun K hK => ?_) AllReadyH.nil
    go_simp
    have HB9 := Blk.new w8 24 #[str ex, byteV ec, str esy]
    have HO9 := HO8.alloc (.cells #[str ex, byteV ec, str esy] 24)
    have hne : v8.ownBlock ≠ some w8.heap.size := (fun h => Nat.lt_irrefl _ (own_ltE hown8 _ h))
    have hKeep := Below.alloc hHeld hHeld.size (.cells #[str ex, byteV ec, str esy] 24)
    refine hK.out _ _ (by exact hKeep) (fun hHeld => ?_)
    clear hK K
    try simp only [Act.put, List.setIfInBounds_toArray, List.set_cons_zero, List.set_cons_succ]
    refine wpAnyH_ready (rs := [5]) (by kernel_rfl) (by simp) ?_
    refine AllReadyH.cons (i := 5) (o := { dst := some 46, op := Op.call { callee := Callee.value (Operand.func 45), args := #[Operand.tmp 42, Operand.tmp 43, Operand.tmp 45], argTypes := #[22, 3, 22] }, type := 22, pos := "words.go:164", after := #[{ on := 1, ground := Ground.data }, { on := 2, ground := Ground.data }, { on := 4, ground := Ground.data }, { on := 1, ground := Ground.chain }], guard := none }) rfl (fun K hK => ?_) AllReadyH.nil
    go_simp
    refine (insertE_any l (ex, ec, esy) at_ v8 _ 1 w7.heap.size _ hatl (by omega) HO9 HB9 hne hHeld.size).mono ?_
    rintro e9 w9 ⟨v9, rfl, hown9, hb9⟩
    obtain ⟨A9, c9, rfl, hc9, ho9⟩ := own_put hown9
    have hKeep : Below w7.heap.size w7 w9 := hHeld.trans hb9
    go_wp2_with fail
    refine hK.out _ _ (by exact hKeep) (fun hHeld => ?_)
    clear hK K
    try simp only [Act.put, List.setIfInBounds_toArray, List.set_cons_zero, List.set_cons_succ]
    refine wpAnyH_take (i := 6) (oi := { dst := some 4, op := Op.assign (Operand.tmp 46), type := 22, pos := "words.go:164", after := #[{ on := 5, ground := Ground.data }, { on := 5, ground := Ground.chain }, { on := 0, ground := Ground.phase }, { on := 1, ground := Ground.phase }, { on := 2, ground := Ground.phase }, { on := 3, ground := Ground.phase }, { on := 4, ground := Ground.phase }, { on := 5, ground := Ground.phase }], guard := none }) (v := ?v12_6) (by kernel_rfl) (by kernel_rfl) (by kernel_rfl) (by kernel_rfl) (fun _ _ _ h => h) (Or.inl ⟨by kernel_rfl, ?h12_6⟩) hHeld ?r12_6
    case h12_6 => (intro w hSw; (try dsimp only at hSw); go_simp; try with_reducible rfl)
    try simp only [Act.put, List.setIfInBounds_toArray, List.set_cons_zero, List.set_cons_succ]
    refine wpAnyH_take (i := 7) (oi := { dst := some 5, op := Op.assign (Operand.const (Value.int IntKind.i64 0)), type := 31, pos := "words.go:164", after := #[{ on := 6, ground := Ground.chain }, { on := 0, ground := Ground.phase }, { on := 1, ground := Ground.phase }, { on := 2, ground := Ground.phase }, { on := 3, ground := Ground.phase }, { on := 4, ground := Ground.phase }, { on := 5, ground := Ground.phase }, { on := 6, ground := Ground.phase }], guard := none }) (v := ?v12_7) (by kernel_rfl) (by kernel_rfl) (by kernel_rfl) (by kernel_rfl) (fun _ _ _ h => h) (Or.inl ⟨by kernel_rfl, ?h12_7⟩) hHeld ?r12_7
    case h12_7 => (intro w hSw; (try dsimp only at hSw); go_simp; try with_reducible rfl)
    try simp only [Act.put, List.setIfInBounds_toArray, List.set_cons_zero, List.set_cons_succ]
    refine wpAnyH_done (by kernel_rfl) ?_ _
    go_wp2_with fail
    go_ret2
    rw [HXX.out]
    exact ok_post hatl hc9 (own_less ho9 hb1.size) (below_then hb1 hHeld)
  · skip
    go_simp
    have HB9 := (Blk.new w7 24 #[str ex, byteV ec, str esy]).drew
    have hKeep := Below.alloc hHeld hHeld.size (.cells #[str ex, byteV ec, str esy] 24)
    refine hK.out _ _ (by exact hKeep) (fun hHeld => ?_)
    clear hK K
    try simp only [Act.put, List.setIfInBounds_toArray, List.set_cons_zero, List.set_cons_succ]
    refine wpAnyH_ready (rs := [1]) (by kernel_rfl) (by simp) ?_
    refine AllReadyH.cons (i := 1) (o := { dst := some 42, op := Op.call { callee := Callee.value (Operand.func 46), args := #[Operand.tmp 41], argTypes := #[22] }, type := 22, pos := "words.go:164", after := #[{ on := 0, ground := Ground.data }], guard := none }) rfl (fun K hK => ?_) AllReadyH.nil
    go_simp
    refine (cloneE_any l _ c _ (by omega) ((HRW.out).later hHeld)).mono ?_
    rintro e8 w8 ⟨v8, rfl, hown8, hb8⟩
    have hKeep : Below w7.heap.size w7 w8 := hHeld.trans (hb8.mono hHeld.size)
    have hsz8 := hHeld.size
    have HO8 := own_less hown8 hsz8
    have HO9 := HO8
    have HB8 := HB9.later hb8
    have hne : v8.ownBlock ≠ some w7.heap.size := (fun h => by have := own_geE hown8 _ h; simp at this; omega)
    go_wp2_with fail
    refine hK.out _ _ (by exact hKeep) (fun hHeld => ?_)
    clear hK K
    try simp only [Act.put, List.setIfInBounds_toArray, List.set_cons_zero, List.set_cons_succ]
    refine wpAnyH_ready (rs := [5]) (by kernel_rfl) (by simp) ?_
    refine AllReadyH.cons (i := 5) (o := { dst := some 46, op := Op.call { callee := Callee.value (Operand.func 45), args := #[Operand.tmp 42, Operand.tmp 43, Operand.tmp 45], argTypes := #[22, 3, 22] }, type := 22, pos := "words.go:164", after := #[{ on := 1, ground := Ground.data }, { on := 2, ground := Ground.data }, { on := 4, ground := Ground.data }, { on := 1, ground := Ground.chain }], guard := none }) rfl (fun K hK => ?_) AllReadyH.nil
    go_simp
    refine (insertE_any l (ex, ec, esy) at_ v8 _ 1 w7.heap.size _ hatl (by omega) HO9 HB8 hne hHeld.size).mono ?_
    rintro e9 w9 ⟨v9, rfl, hown9, hb9⟩
    obtain ⟨A9, c9, rfl, hc9, ho9⟩ := own_put hown9
    have hKeep : Below w7.heap.size w7 w9 := hHeld.trans hb9
    go_wp2_with fail
    refine hK.out _ _ (by exact hKeep) (fun hHeld => ?_)
    clear hK K
    try simp only [Act.put, List.setIfInBounds_toArray, List.set_cons_zero, List.set_cons_succ]
    refine wpAnyH_take (i := 6) (oi := { dst := some 4, op := Op.assign (Operand.tmp 46), type := 22, pos := "words.go:164", after := #[{ on := 5, ground := Ground.data }, { on := 5, ground := Ground.chain }, { on := 0, ground := Ground.phase }, { on := 1, ground := Ground.phase }, { on := 2, ground := Ground.phase }, { on := 3, ground := Ground.phase }, { on := 4, ground := Ground.phase }, { on := 5, ground := Ground.phase }], guard := none }) (v := ?v13_6) (by kernel_rfl) (by kernel_rfl) (by kernel_rfl) (by kernel_rfl) (fun _ _ _ h => h) (Or.inl ⟨by kernel_rfl, ?h13_6⟩) hHeld ?r13_6
    case h13_6 => (intro w hSw; (try dsimp only at hSw); go_simp; try with_reducible rfl)
    try simp only [Act.put, List.setIfInBounds_toArray, List.set_cons_zero, List.set_cons_succ]
    refine wpAnyH_take (i := 7) (oi := { dst := some 5, op := Op.assign (Operand.const (Value.int IntKind.i64 0)), type := 31, pos := "words.go:164", after := #[{ on := 6, ground := Ground.chain }, { on := 0, ground := Ground.phase }, { on := 1, ground := Ground.phase }, { on := 2, ground := Ground.phase }, { on := 3, ground := Ground.phase }, { on := 4, ground := Ground.phase }, { on := 5, ground := Ground.phase }, { on := 6, ground := Ground.phase }], guard := none }) (v := ?v13_7) (by kernel_rfl) (by kernel_rfl) (by kernel_rfl) (by kernel_rfl) (fun _ _ _ h => h) (Or.inl ⟨by kernel_rfl, ?h13_7⟩) hHeld ?r13_7
    case h13_7 => (intro w hSw; (try dsimp only at hSw); go_simp; try with_reducible rfl)
    try simp only [Act.put, List.setIfInBounds_toArray, List.set_cons_zero, List.set_cons_succ]
    refine wpAnyH_done (by kernel_rfl) ?_ _
    go_wp2_with fail
    go_ret2
    rw [HXX.out]
    exact ok_post hatl hc9 (own_less ho9 hb1.size) (below_then hb1 hHeld)
theorem add_any (l : List Ent) (e : Ent) (A : Option Addr) (c : Nat) (w : World) (hl : l.length ≤ 1048576) (hw : ∀ x ∈ l, x.1.length ≤ 1048576) (hc : l.length ≤ c) (hr : Reads w w.heap.size 3 A l.length (flat l)) (hx : e.1.length ≤ 1048576) :
    Calls Tryz.prog 13 #[.slice A l.length c, entV e] w (OwnPost w (addR l e).1 (addR l e).2) := by
  obtain ⟨ex, ec, esy⟩ := e
  cases hb : (validL l && rightL (ex, ec, esy))
  · have e1 : addR l (ex, ec, esy) = ([], 2) := by unfold addR; rw [hb]; rfl
    rw [e1]
    exact (add_bad l (ex, ec, esy) A c w hl hw hc hr hx hb).mono fun e' w' ⟨h1, h2⟩ => by rw [h1]; exact OwnPost.none_ 2 h2
  · rw [Bool.and_eq_true] at hb
    obtain ⟨hv, hrt⟩ := hb
    have hl1 : l.length ≤ 100 := by
      have hv' := hv
      unfold validL at hv'; rw [Bool.and_eq_true] at hv'; simpa using hv'.1
    have hat : atL l (ex, ec, esy) ≤ l.length := firstIdx_le _ _
    cases hcl : (l.any fun o => clashL o (ex, ec, esy)) <;> by_cases hn : l.length = 100 <;> by_cases h1 : atL l (ex, ec, esy) < l.length <;> by_cases h2 : cmpL (l.getD (atL l (ex, ec, esy)) ([], 0, [])) (ex, ec, esy) = 0
    all_goals first
      | exact add_twice l ex ec esy A c w hl1 hw hc hr hx hv hrt h1 h2
      | exact add_clash_in l ex ec esy A c w hl1 hw hc hr hx hv hrt h1 h2 hcl
      | exact add_clash_end l ex ec esy A c w hl1 hw hc hr hx hv hrt (by omega) hcl
      | exact add_many_in l ex ec esy A c w hl1 hw hc hr hx hv hrt h1 h2 hcl hn
      | exact add_many_end l ex ec esy A c w hl1 hw hc hr hx hv hrt (by omega) hcl hn
      | exact add_ok_in l ex ec esy A c w hl1 hw hc hr hx hv hrt h1 h2 hcl hn
      | exact add_ok_end l ex ec esy A c w hl1 hw hc hr hx hv hrt (by omega) hcl hn
end Go.Proofs.YtbbgieopcmjoeaaGreatDoor
