/- package words: valid lexicons. -/
import Derived.Test.YtbbgieopcmjoeaaGreatDoorOrder
import Derived.Deep.RegionHeld3
namespace Go.Proofs.YtbbgieopcmjoeaaGreatDoor
open Go.RowKit
/-- What the i-th entry of a lexicon must be, beside those ahead of it. -/
def okE (l : List Ent) (i : Nat) (e : Ent) : Bool := rightL e && ((decide (i = 0) || decide (cmpL (l.getD (i - 1) ([], 0, [])) e < 0)) && !((l.take i).any fun o => clashL o e))
def okAt (l : List Ent) (i : Nat) : Bool := (l[i]?.map (okE l i)).getD true
def validL (l : List Ent) : Bool := decide (l.length ≤ 100) && !anyIdx (fun i => !okAt l i) l.length
theorem enters_valid1 : Enters Tryz.prog 49 := enters_of Tryz.func49 (by kernel_rfl) rfl
theorem contains_clash (l : List Ent) (e : Ent) (A : Option Addr) (c B : Nat) (w : World) (hm : l.length ≤ 140737488355328) (hr : Reads w w.heap.size 3 A l.length (flat l)) (hB : B < w.heap.size)
    (h0 : w.cell? ⟨B, 0, none⟩ = some (str e.1)) (h1 : w.cell? ⟨B, 1, none⟩ = some (byteV e.2.1)) (h2 : w.cell? ⟨B, 2, none⟩ = some (str e.2.2)) :
    Calls Tryz.prog 42 #[.slice A l.length c, .func (.func 49) #[] #[.pointer (some ⟨B, 0, none⟩)]] w fun e' w' => e' = .returned (.bool (l.any fun o => clashL o e)) ∧ Below w.heap.size w w' := by
  have hp : Pred 49 [.pointer (some ⟨B, 0, none⟩)] (argE (flat l)) l.length (fun i => clashL (l.getD i ([], 0, [])) e) w := fun i hi W hb => by
    rw [flat_arg l i hi]
    have e1 : l.getD i ([], 0, []) = l[i] := by simp [hi]
    simp only [e1]
    exact valid1_any l[i] e B W (Nat.lt_of_lt_of_le hB hb.size) ((hb.cell (p := ⟨B, 0, none⟩) hB).trans h0) ((hb.cell (p := ⟨B, 1, none⟩) hB).trans h1) ((hb.cell (p := ⟨B, 2, none⟩) hB).trans h2)
  have h := containsFunc_ent A l.length c (flat l) 49 enters_valid1 [.pointer (some ⟨B, 0, none⟩)] _ w hm hr hp
  rw [anyIdx_list (fun o => clashL o e) l _ (fun i hi => by simp [hi])] at h
  exact h
theorem Reads.ent {w : World} {B : Nat} {A : Option Addr} {l : List Ent} {k : Nat} (h : Reads w B 3 A l.length (flat l)) (hk : k < l.length) : ∃ b off, A = some ⟨b, off, none⟩ ∧ b < B ∧
    w.cell? ⟨b, off + k * 3, none⟩ = some (str l[k].1) ∧ w.cell? ⟨b, off + k * 3 + 1, none⟩ = some (byteV l[k].2.1) ∧ w.cell? ⟨b, off + k * 3 + 2, none⟩ = some (str l[k].2.2) := by
  obtain ⟨b, off, u0, u1, u2, e, hb, hx, h0, h1, h2⟩ := h.at3 hk
  rw [flat_arg l k hk] at hx
  simp only [entV, Value.agg.injEq, Array.mk.injEq, List.cons.injEq, and_true] at hx
  obtain ⟨rfl, rfl, rfl⟩ := hx
  exact ⟨b, off, e, hb, h0, h1, h2⟩
theorem valid_bad {l : List Ent} {k : Nat} (hk : k < l.length) (h : okAt l k = false) : validL l = false := by
  have : anyIdx (fun i => !okAt l i) l.length = true := by rw [anyIdx_iff]; exact ⟨k, hk, by simp [h]⟩
  simp [validL, this]
theorem okAt_eq {l : List Ent} {k : Nat} {e : Ent} (hk : k < l.length) (he : l[k] = e) : okAt l k = okE l k e := by simp [okAt, hk, he]
theorem okAt_not {l : List Ent} {k : Nat} {e : Ent} (hk : k < l.length) (he : l[k] = e) (h : okE l k e = true) : (fun i => !okAt l i) k = false := by simp [okAt_eq hk he, h]
theorem keep3 {w W W' : World} {B : Nat} {e : Ent} (h : W.cell? ⟨B, 0, none⟩ = some (str e.1) ∧ W.cell? ⟨B, 1, none⟩ = some (byteV e.2.1) ∧ W.cell? ⟨B, 2, none⟩ = some (str e.2.2) ∧ B < W.heap.size ∧ Below w.heap.size w W) (hb : Below W.heap.size W W') :
    W'.cell? ⟨B, 0, none⟩ = some (str e.1) ∧ W'.cell? ⟨B, 1, none⟩ = some (byteV e.2.1) ∧ W'.cell? ⟨B, 2, none⟩ = some (str e.2.2) ∧ B < W'.heap.size ∧ Below w.heap.size w W' := by
  obtain ⟨h0, h1, h2, h3, h4⟩ := h
  exact ⟨(hb.cell (p := ⟨B, 0, none⟩) h3).trans h0, (hb.cell (p := ⟨B, 1, none⟩) h3).trans h1, (hb.cell (p := ⟨B, 2, none⟩) h3).trans h2, Nat.lt_of_lt_of_le h3 hb.size, below_then h4 hb⟩
theorem start3 {w W : World} {B : Nat} {e : Ent} (h : W.cell? ⟨B, 0, none⟩ = some (str e.1) ∧ W.cell? ⟨B, 1, none⟩ = some (byteV e.2.1) ∧ W.cell? ⟨B, 2, none⟩ = some (str e.2.2) ∧ B < W.heap.size ∧ Below w.heap.size w W) :
    W.drew.cell? ⟨B, 0, none⟩ = some (str e.1) ∧ W.drew.cell? ⟨B, 1, none⟩ = some (byteV e.2.1) ∧ W.drew.cell? ⟨B, 2, none⟩ = some (str e.2.2) ∧ B < W.drew.heap.size ∧ Below w.heap.size w W.drew := ⟨h.1, h.2.1, h.2.2.1, h.2.2.2.1, h.2.2.2.2.drew⟩
/-- What the region of Valid knows of the world: the entry's own box, and the entry ahead of it. -/
abbrev S6 (w W : World) (B : Nat) (e : Ent) (b o : Nat) (q : Ent) : Prop := W.cell? ⟨B, 0, none⟩ = some (str e.1) ∧ W.cell? ⟨B, 1, none⟩ = some (byteV e.2.1) ∧ W.cell? ⟨B, 2, none⟩ = some (str e.2.2) ∧ B < W.heap.size ∧ Below w.heap.size w W ∧
  W.cell? ⟨b, o, none⟩ = some (str q.1) ∧ W.cell? ⟨b, o + 1, none⟩ = some (byteV q.2.1) ∧ W.cell? ⟨b, o + 2, none⟩ = some (str q.2.2) ∧ b < W.heap.size
theorem keep6 {w W W' : World} {B b o : Nat} {e q : Ent} (h : S6 w W B e b o q) (hb : Below W.heap.size W W') : S6 w W' B e b o q := by
  obtain ⟨h0, h1, h2, h3, h4, h5, h6, h7, h8⟩ := h
  exact ⟨(hb.cell (p := ⟨B, 0, none⟩) h3).trans h0, (hb.cell (p := ⟨B, 1, none⟩) h3).trans h1, (hb.cell (p := ⟨B, 2, none⟩) h3).trans h2, Nat.lt_of_lt_of_le h3 hb.size, below_then h4 hb,
    (hb.cell (p := ⟨b, o, none⟩) h8).trans h5, (hb.cell (p := ⟨b, o + 1, none⟩) h8).trans h6, (hb.cell (p := ⟨b, o + 2, none⟩) h8).trans h7, Nat.lt_of_lt_of_le h8 hb.size⟩
theorem start6 {w W : World} {B b o : Nat} {e q : Ent} (h : S6 w W B e b o q) : S6 w W.drew B e b o q := ⟨h.1, h.2.1, h.2.2.1, h.2.2.2.1, h.2.2.2.2.1.drew, h.2.2.2.2.2⟩
theorem contains_take (l : List Ent) (e : Ent) (k : Nat) (A : Option Addr) (c B : Nat) (w W : World) (hl : l.length ≤ 100) (hk : k < l.length) (hr : Reads w w.heap.size 3 A l.length (flat l))
    (h0 : W.cell? ⟨B, 0, none⟩ = some (str e.1)) (h1 : W.cell? ⟨B, 1, none⟩ = some (byteV e.2.1)) (h2 : W.cell? ⟨B, 2, none⟩ = some (str e.2.2)) (hB : B < W.heap.size) (hb : Below w.heap.size w W) :
    Calls Tryz.prog 42 #[.slice A k c, .func (.func 49) #[] #[.pointer (some ⟨B, 0, none⟩)]] W fun e' w' => e' = .returned (.bool ((l.take k).any fun o => clashL o e)) ∧ Below W.heap.size W w' := by
  have hr1 := (hr.later hb).front (k := k) (by omega)
  rw [flat_take] at hr1
  have hlen : (l.take k).length = k := by rw [List.length_take]; omega
  have h := contains_clash (l.take k) e A c B W (by omega) (by rw [hlen]; exact hr1) hB h0 h1 h2
  rw [hlen] at h
  exact h
theorem okE_eq {l : List Ent} {k : Nat} {e : Ent} (h : rightL e = true) (h2 : k = 0 ∨ cmpL (l.getD (k - 1) ([], 0, [])) e < 0) : okE l k e = !((l.take k).any fun o => clashL o e) := by
  unfold okE; rw [h]
  rcases h2 with rfl | h2
  · simp
  · rw [decide_eq_true h2]; simp
set_option maxRecDepth 100000 in
set_option maxHeartbeats 1600000 in
theorem valid_any (l : List Ent) (A : Option Addr) (c : Nat) (w : World) (hw : ∀ e ∈ l, e.1.length ≤ 140737488355328) (hm : l.length ≤ c) (hr : Reads w w.heap.size 3 A l.length (flat l)) :
    Calls Tryz.prog 17 #[.slice A l.length c] w fun e' w' => e' = .returned (.bool (validL l)) ∧ Below w.heap.size w w' := by
  rcases Nat.lt_or_ge 100 l.length with hl | hl
  · clear hr hw
    go_enter Tryz.func17, Tryz.ntmps17
    go_wp2_with fail
    go_ret
    exact ⟨ret_bool (by simp [validL]; omega), Below.refl _ _⟩
  · have HR := Lib.hid hr; clear hr
    have HW := Lib.hid hw; clear hw
    go_enter Tryz.func17, Tryz.ntmps17
    go_wp2_with fail
    go_loopw [10] (fun i wr => ∃ k : Nat, k ≤ l.length ∧ i = .int .i64 k ∧ Below w.heap.size w wr ∧ NoneTo (fun i => !okAt l i) k) (fun i _ => l.length - (intOf i).toNat)
    case atStart => exact ⟨0, Nat.zero_le _, rfl, Below.refl _ _, NoneTo.zero _⟩
    case round =>
      obtain ⟨k, hk, rfl, hb, hno⟩ := hrel
      by_cases hlt : k < l.length
      · obtain ⟨b, off, rfl, hB, h0, h1, h2⟩ := ((HR.out).below hb).ent hlt
        have hxl : (l[k]).1.length ≤ 140737488355328 := (HW.out) _ (List.getElem_mem hlt)
        generalize hE : l[k] = e at h0 h1 h2 hxl
        have HE := Lib.hid hE; clear hE
        obtain ⟨ex, ec, esy⟩ := e
        cases hrt : rightL (ex, ec, esy)
        · have HRT := Lib.hid hrt; clear hrt
          go_wp2_with fail
          obtain ⟨W1, hW1⟩ : ∃ W1 : World, W1 = wr.alloc (.cells #[str ex, byteV ec, str esy] 24) := ⟨_, rfl⟩
          have hbk : Blk W1 wr.heap.size 24 #[str ex, byteV ec, str esy] := by rw [hW1]; exact Blk.new _ _ _
          have hS := (⟨hbk.cell 0, hbk.cell 1, hbk.cell 2, hbk.lt, hW1 ▸ hb.alloc hb.size _⟩ : W1.cell? ⟨wr.heap.size, 0, none⟩ = some (str ex) ∧ W1.cell? ⟨wr.heap.size, 1, none⟩ = some (byteV ec) ∧ W1.cell? ⟨wr.heap.size, 2, none⟩ = some (str esy) ∧ wr.heap.size < W1.heap.size ∧ Below w.heap.size w W1)
          have hX : Below wr.heap.size wr W1 := hW1 ▸ (Below.refl _ _).alloc (Nat.le_refl _) _
          rw [← hW1]
          clear hW1 hbk
          refine wp_region_held_drew (S := fun W => W.cell? ⟨wr.heap.size, 0, none⟩ = some (str ex) ∧ W.cell? ⟨wr.heap.size, 1, none⟩ = some (byteV ec) ∧ W.cell? ⟨wr.heap.size, 2, none⟩ = some (str esy) ∧ wr.heap.size < W.heap.size ∧ Below w.heap.size w W) (by kernel_rfl) (by exact start3 (e := (ex, ec, esy)) hS) (fun hHeld => ?_)
          refine wpAnyH_take (i := 0) (oi := { dst := some 15, op := Op.load 24 (Operand.tmp 4), type := 24, pos := "words.go:95", after := #[], guard := none }) (v := ?v1_0) (by kernel_rfl) (by kernel_rfl) (by kernel_rfl) (by kernel_rfl) (fun _ _ _ h => h) (Or.inl ⟨by kernel_rfl, ?h1_0⟩) hHeld ?r1_0
          case h1_0 => (intro w hSw; (try dsimp only at hSw); go_simp; try with_reducible rfl)
          try simp only [Act.put, List.setIfInBounds_toArray, List.set_cons_zero, List.set_cons_succ]
          refine wpAnyH_ready (rs := [1]) (by kernel_rfl) (by simp) ?_
          refine AllReadyH.cons (i := 1) (o := { dst := some 16, op := Op.call { callee := Callee.value (Operand.func 24), args := #[Operand.tmp 15], argTypes := #[24] }, type := 4, pos := "words.go:95", after := #[{ on := 0, ground := Ground.data }], guard := none }) rfl (fun K hK => ?_) AllReadyH.nil
          go_simp
          refine (right_any _ _ _ _ hxl).mono ?_
          rintro e' w1 ⟨rfl, hb1⟩
          rw [HRT.out]
          go_wp2_with fail
          refine hK.out _ _ (by exact keep3 (e := (ex, ec, esy)) (by assumption) (by assumption)) (fun hHeld => ?_)
          clear hK K
          try simp only [Act.put, List.setIfInBounds_toArray, List.set_cons_zero, List.set_cons_succ]
          refine wpAnyH_take (i := 2) (oi := { dst := some 17, op := Op.unOp UnOp.not 4 (Operand.tmp 16), type := 4, pos := "words.go:95", after := #[{ on := 1, ground := Ground.data }], guard := none }) (v := ?v1_2) (by kernel_rfl) (by kernel_rfl) (by kernel_rfl) (by kernel_rfl) (fun _ _ _ h => h) (Or.inl ⟨by kernel_rfl, ?h1_2⟩) hHeld ?r1_2
          case h1_2 => (intro w hSw; (try dsimp only at hSw); go_simp; try with_reducible rfl)
          try simp only [Act.put, List.setIfInBounds_toArray, List.set_cons_zero, List.set_cons_succ]
          refine wpAnyH_take (i := 3) (oi := { dst := some 18, op := Op.move (Operand.tmp 17), type := 4, pos := "words.go:95", after := #[{ on := 2, ground := Ground.data }, { on := 1, ground := Ground.chain }], guard := none }) (v := ?v1_3) (by kernel_rfl) (by kernel_rfl) (by kernel_rfl) (by kernel_rfl) (fun _ _ _ h => h) (Or.inl ⟨by kernel_rfl, ?h1_3⟩) hHeld ?r1_3
          case h1_3 => (intro w hSw; (try dsimp only at hSw); go_simp; try with_reducible rfl)
          try simp only [Act.put, List.setIfInBounds_toArray, List.set_cons_zero, List.set_cons_succ]
          refine wpAnyH_take (i := 4) (oi := { dst := some 19, op := Op.move (Operand.tmp 3), type := 3, pos := "words.go:95", after := #[{ on := 3, ground := Ground.guard }], guard := some (3, false) }) (v := undef) (by kernel_rfl) (by kernel_rfl) (by kernel_rfl) (by kernel_rfl) (fun _ _ _ h => h) (Or.inr ⟨by kernel_rfl, rfl⟩) hHeld ?_
          try simp only [Act.put, List.setIfInBounds_toArray, List.set_cons_zero, List.set_cons_succ]
          refine wpAnyH_take (i := 5) (oi := { dst := some 20, op := Op.binOp BinOp.gtr 3 (Operand.tmp 19) (Operand.const (Value.int IntKind.i64 0)) 3, type := 4, pos := "words.go:95", after := #[{ on := 4, ground := Ground.data }, { on := 3, ground := Ground.guard }], guard := some (3, false) }) (v := undef) (by kernel_rfl) (by kernel_rfl) (by kernel_rfl) (by kernel_rfl) (fun _ _ _ h => h) (Or.inr ⟨by kernel_rfl, rfl⟩) hHeld ?_
          try simp only [Act.put, List.setIfInBounds_toArray, List.set_cons_zero, List.set_cons_succ]
          refine wpAnyH_take (i := 6) (oi := { dst := some 21, op := Op.move (Operand.tmp 20), type := 4, pos := "words.go:95", after := #[{ on := 5, ground := Ground.data }, { on := 3, ground := Ground.chain }, { on := 3, ground := Ground.guard }], guard := some (3, false) }) (v := undef) (by kernel_rfl) (by kernel_rfl) (by kernel_rfl) (by kernel_rfl) (fun _ _ _ h => h) (Or.inr ⟨by kernel_rfl, rfl⟩) hHeld ?_
          try simp only [Act.put, List.setIfInBounds_toArray, List.set_cons_zero, List.set_cons_succ]
          refine wpAnyH_take (i := 7) (oi := { dst := some 22, op := Op.move (Operand.tmp 0), type := 22, pos := "words.go:95", after := #[{ on := 6, ground := Ground.guard }], guard := some (6, true) }) (v := undef) (by kernel_rfl) (by kernel_rfl) (by kernel_rfl) (by kernel_rfl) (fun _ _ _ h => h) (Or.inr ⟨by kernel_rfl, rfl⟩) hHeld ?_
          try simp only [Act.put, List.setIfInBounds_toArray, List.set_cons_zero, List.set_cons_succ]
          refine wpAnyH_take (i := 8) (oi := { dst := some 23, op := Op.move (Operand.tmp 3), type := 3, pos := "words.go:95", after := #[{ on := 6, ground := Ground.guard }], guard := some (6, true) }) (v := undef) (by kernel_rfl) (by kernel_rfl) (by kernel_rfl) (by kernel_rfl) (fun _ _ _ h => h) (Or.inr ⟨by kernel_rfl, rfl⟩) hHeld ?_
          try simp only [Act.put, List.setIfInBounds_toArray, List.set_cons_zero, List.set_cons_succ]
          refine wpAnyH_take (i := 9) (oi := { dst := some 24, op := Op.binOp BinOp.sub 3 (Operand.tmp 23) (Operand.const (Value.int IntKind.i64 1)) 3, type := 3, pos := "words.go:95", after := #[{ on := 8, ground := Ground.data }, { on := 6, ground := Ground.guard }], guard := some (6, true) }) (v := undef) (by kernel_rfl) (by kernel_rfl) (by kernel_rfl) (by kernel_rfl) (fun _ _ _ h => h) (Or.inr ⟨by kernel_rfl, rfl⟩) hHeld ?_
          try simp only [Act.put, List.setIfInBounds_toArray, List.set_cons_zero, List.set_cons_succ]
          refine wpAnyH_take (i := 10) (oi := { dst := some 25, op := Op.indexAddr 22 (Operand.tmp 22) (Operand.tmp 24), type := 0, pos := "words.go:95", after := #[{ on := 7, ground := Ground.data }, { on := 9, ground := Ground.data }, { on := 6, ground := Ground.guard }], guard := some (6, true) }) (v := undef) (by kernel_rfl) (by kernel_rfl) (by kernel_rfl) (by kernel_rfl) (fun _ _ _ h => h) (Or.inr ⟨by kernel_rfl, rfl⟩) hHeld ?_
          try simp only [Act.put, List.setIfInBounds_toArray, List.set_cons_zero, List.set_cons_succ]
          refine wpAnyH_take (i := 11) (oi := { dst := some 26, op := Op.load 24 (Operand.tmp 25), type := 24, pos := "words.go:95", after := #[{ on := 10, ground := Ground.data }, { on := 6, ground := Ground.guard }], guard := some (6, true) }) (v := undef) (by kernel_rfl) (by kernel_rfl) (by kernel_rfl) (by kernel_rfl) (fun _ _ _ h => h) (Or.inr ⟨by kernel_rfl, rfl⟩) hHeld ?_
          try simp only [Act.put, List.setIfInBounds_toArray, List.set_cons_zero, List.set_cons_succ]
          refine wpAnyH_take (i := 12) (oi := { dst := some 27, op := Op.load 24 (Operand.tmp 4), type := 24, pos := "words.go:95", after := #[{ on := 6, ground := Ground.guard }], guard := some (6, true) }) (v := undef) (by kernel_rfl) (by kernel_rfl) (by kernel_rfl) (by kernel_rfl) (fun _ _ _ h => h) (Or.inr ⟨by kernel_rfl, rfl⟩) hHeld ?_
          try simp only [Act.put, List.setIfInBounds_toArray, List.set_cons_zero, List.set_cons_succ]
          refine wpAnyH_take (i := 13) (oi := { dst := some 28, op := Op.call { callee := Callee.value (Operand.func 41), args := #[Operand.tmp 26, Operand.tmp 27], argTypes := #[24, 24] }, type := 3, pos := "words.go:95", after := #[{ on := 11, ground := Ground.data }, { on := 12, ground := Ground.data }, { on := 6, ground := Ground.chain }, { on := 6, ground := Ground.guard }], guard := some (6, true) }) (v := undef) (by kernel_rfl) (by kernel_rfl) (by kernel_rfl) (by kernel_rfl) (fun _ _ _ h => h) (Or.inr ⟨by kernel_rfl, rfl⟩) hHeld ?_
          try simp only [Act.put, List.setIfInBounds_toArray, List.set_cons_zero, List.set_cons_succ]
          refine wpAnyH_take (i := 14) (oi := { dst := some 29, op := Op.binOp BinOp.geq 3 (Operand.tmp 28) (Operand.const (Value.int IntKind.i64 0)) 3, type := 4, pos := "words.go:95", after := #[{ on := 13, ground := Ground.data }, { on := 6, ground := Ground.guard }], guard := some (6, true) }) (v := undef) (by kernel_rfl) (by kernel_rfl) (by kernel_rfl) (by kernel_rfl) (fun _ _ _ h => h) (Or.inr ⟨by kernel_rfl, rfl⟩) hHeld ?_
          try simp only [Act.put, List.setIfInBounds_toArray, List.set_cons_zero, List.set_cons_succ]
          refine wpAnyH_take (i := 15) (oi := { dst := some 30, op := Op.pick (Operand.tmp 21) (Operand.tmp 29) (Operand.const (Value.bool false)), type := 4, pos := "words.go:95", after := #[{ on := 6, ground := Ground.data }, { on := 14, ground := Ground.data }, { on := 3, ground := Ground.guard }], guard := some (3, false) }) (v := undef) (by kernel_rfl) (by kernel_rfl) (by kernel_rfl) (by kernel_rfl) (fun _ _ _ h => h) (Or.inr ⟨by kernel_rfl, rfl⟩) hHeld ?_
          try simp only [Act.put, List.setIfInBounds_toArray, List.set_cons_zero, List.set_cons_succ]
          refine wpAnyH_take (i := 16) (oi := { dst := some 31, op := Op.pick (Operand.tmp 18) (Operand.const (Value.bool true)) (Operand.tmp 30), type := 4, pos := "words.go:95", after := #[{ on := 3, ground := Ground.data }, { on := 15, ground := Ground.data }], guard := none }) (v := ?v1_16) (by kernel_rfl) (by kernel_rfl) (by kernel_rfl) (by kernel_rfl) (fun _ _ _ h => h) (Or.inl ⟨by kernel_rfl, ?h1_16⟩) hHeld ?r1_16
          case h1_16 => (intro w hSw; (try dsimp only at hSw); go_simp; try with_reducible rfl)
          try simp only [Act.put, List.setIfInBounds_toArray, List.set_cons_zero, List.set_cons_succ]
          refine wpAnyH_take (i := 17) (oi := { dst := some 32, op := Op.move (Operand.tmp 31), type := 4, pos := "words.go:95", after := #[{ on := 16, ground := Ground.data }, { on := 13, ground := Ground.chain }], guard := none }) (v := ?v1_17) (by kernel_rfl) (by kernel_rfl) (by kernel_rfl) (by kernel_rfl) (fun _ _ _ h => h) (Or.inl ⟨by kernel_rfl, ?h1_17⟩) hHeld ?r1_17
          case h1_17 => (intro w hSw; (try dsimp only at hSw); go_simp; try with_reducible rfl)
          try simp only [Act.put, List.setIfInBounds_toArray, List.set_cons_zero, List.set_cons_succ]
          refine wpAnyH_take (i := 18) (oi := { dst := some 33, op := Op.move (Operand.tmp 0), type := 22, pos := "words.go:95", after := #[{ on := 17, ground := Ground.guard }], guard := some (17, false) }) (v := undef) (by kernel_rfl) (by kernel_rfl) (by kernel_rfl) (by kernel_rfl) (fun _ _ _ h => h) (Or.inr ⟨by kernel_rfl, rfl⟩) hHeld ?_
          try simp only [Act.put, List.setIfInBounds_toArray, List.set_cons_zero, List.set_cons_succ]
          refine wpAnyH_take (i := 19) (oi := { dst := some 34, op := Op.move (Operand.tmp 3), type := 3, pos := "words.go:95", after := #[{ on := 17, ground := Ground.guard }], guard := some (17, false) }) (v := undef) (by kernel_rfl) (by kernel_rfl) (by kernel_rfl) (by kernel_rfl) (fun _ _ _ h => h) (Or.inr ⟨by kernel_rfl, rfl⟩) hHeld ?_
          try simp only [Act.put, List.setIfInBounds_toArray, List.set_cons_zero, List.set_cons_succ]
          refine wpAnyH_take (i := 20) (oi := { dst := some 35, op := Op.slice 22 (Operand.tmp 33) none (some (Operand.tmp 34)) none, type := 22, pos := "words.go:95", after := #[{ on := 18, ground := Ground.data }, { on := 19, ground := Ground.data }, { on := 17, ground := Ground.guard }], guard := some (17, false) }) (v := undef) (by kernel_rfl) (by kernel_rfl) (by kernel_rfl) (by kernel_rfl) (fun _ _ _ h => h) (Or.inr ⟨by kernel_rfl, rfl⟩) hHeld ?_
          try simp only [Act.put, List.setIfInBounds_toArray, List.set_cons_zero, List.set_cons_succ]
          refine wpAnyH_take (i := 21) (oi := { dst := some 36, op := Op.makeFunc (Fn.func 49) #[] #[Operand.tmp 4], type := 52, pos := "words.go:95", after := #[{ on := 17, ground := Ground.guard }], guard := some (17, false) }) (v := undef) (by kernel_rfl) (by kernel_rfl) (by kernel_rfl) (by kernel_rfl) (fun _ _ _ h => h) (Or.inr ⟨by kernel_rfl, rfl⟩) hHeld ?_
          try simp only [Act.put, List.setIfInBounds_toArray, List.set_cons_zero, List.set_cons_succ]
          refine wpAnyH_take (i := 22) (oi := { dst := some 37, op := Op.call { callee := Callee.value (Operand.func 42), args := #[Operand.tmp 35, Operand.tmp 36], argTypes := #[22, 52] }, type := 4, pos := "words.go:95", after := #[{ on := 20, ground := Ground.data }, { on := 21, ground := Ground.data }, { on := 17, ground := Ground.chain }, { on := 17, ground := Ground.guard }], guard := some (17, false) }) (v := undef) (by kernel_rfl) (by kernel_rfl) (by kernel_rfl) (by kernel_rfl) (fun _ _ _ h => h) (Or.inr ⟨by kernel_rfl, rfl⟩) hHeld ?_
          try simp only [Act.put, List.setIfInBounds_toArray, List.set_cons_zero, List.set_cons_succ]
          refine wpAnyH_take (i := 23) (oi := { dst := some 38, op := Op.pick (Operand.tmp 32) (Operand.const (Value.bool true)) (Operand.tmp 37), type := 4, pos := "words.go:95", after := #[{ on := 17, ground := Ground.data }, { on := 22, ground := Ground.data }], guard := none }) (v := ?v1_23) (by kernel_rfl) (by kernel_rfl) (by kernel_rfl) (by kernel_rfl) (fun _ _ _ h => h) (Or.inl ⟨by kernel_rfl, ?h1_23⟩) hHeld ?r1_23
          case h1_23 => (intro w hSw; (try dsimp only at hSw); go_simp; try with_reducible rfl)
          try simp only [Act.put, List.setIfInBounds_toArray, List.set_cons_zero, List.set_cons_succ]
          refine wpAnyH_done (by kernel_rfl) ?_ _
          all_goals go_wp2_with fail
          go_ret
          exact ⟨ret_bool (valid_bad hlt (by rw [okAt_eq hlt HE.out]; unfold okE; rw [HRT.out]; rfl)).symm, hHeld.2.2.2.2⟩
        · have HRT := Lib.hid hrt; clear hrt
          rcases Nat.eq_zero_or_pos k with rfl | hpos
          · have HK : Hid (((l.take 0).any fun o => clashL o (ex, ec, esy)) = false) := rfl
            simp only [Nat.zero_mul, Nat.add_zero] at h0 h1 h2
            go_wp2_with fail
            obtain ⟨W1, hW1⟩ : ∃ W1 : World, W1 = wr.alloc (.cells #[str ex, byteV ec, str esy] 24) := ⟨_, rfl⟩
            have hbk : Blk W1 wr.heap.size 24 #[str ex, byteV ec, str esy] := by rw [hW1]; exact Blk.new _ _ _
            have hS := (⟨hbk.cell 0, hbk.cell 1, hbk.cell 2, hbk.lt, hW1 ▸ hb.alloc hb.size _⟩ : W1.cell? ⟨wr.heap.size, 0, none⟩ = some (str ex) ∧ W1.cell? ⟨wr.heap.size, 1, none⟩ = some (byteV ec) ∧ W1.cell? ⟨wr.heap.size, 2, none⟩ = some (str esy) ∧ wr.heap.size < W1.heap.size ∧ Below w.heap.size w W1)
            have hX : Below wr.heap.size wr W1 := hW1 ▸ (Below.refl _ _).alloc (Nat.le_refl _) _
            rw [← hW1]
            clear hW1 hbk
            refine wp_region_held_drew (S := fun W => W.cell? ⟨wr.heap.size, 0, none⟩ = some (str ex) ∧ W.cell? ⟨wr.heap.size, 1, none⟩ = some (byteV ec) ∧ W.cell? ⟨wr.heap.size, 2, none⟩ = some (str esy) ∧ wr.heap.size < W.heap.size ∧ Below w.heap.size w W) (by kernel_rfl) (by exact start3 (e := (ex, ec, esy)) hS) (fun hHeld => ?_)
            refine wpAnyH_take (i := 0) (oi := { dst := some 15, op := Op.load 24 (Operand.tmp 4), type := 24, pos := "words.go:95", after := #[], guard := none }) (v := ?v2_0) (by kernel_rfl) (by kernel_rfl) (by kernel_rfl) (by kernel_rfl) (fun _ _ _ h => h) (Or.inl ⟨by kernel_rfl, ?h2_0⟩) hHeld ?r2_0
            case h2_0 => (intro w hSw; (try dsimp only at hSw); go_simp; try with_reducible rfl)
            try simp only [Act.put, List.setIfInBounds_toArray, List.set_cons_zero, List.set_cons_succ]
            refine wpAnyH_ready (rs := [1]) (by kernel_rfl) (by simp) ?_
            refine AllReadyH.cons (i := 1) (o := { dst := some 16, op := Op.call { callee := Callee.value (Operand.func 24), args := #[Operand.tmp 15], argTypes := #[24] }, type := 4, pos := "words.go:95", after := #[{ on := 0, ground := Ground.data }], guard := none }) rfl (fun K hK => ?_) AllReadyH.nil
            go_simp
            refine (right_any _ _ _ _ hxl).mono ?_
            rintro e' w1 ⟨rfl, hb1⟩
            rw [HRT.out]
            go_wp2_with fail
            refine hK.out _ _ (by exact keep3 (e := (ex, ec, esy)) (by assumption) (by assumption)) (fun hHeld => ?_)
            clear hK K
            try simp only [Act.put, List.setIfInBounds_toArray, List.set_cons_zero, List.set_cons_succ]
            refine wpAnyH_take (i := 2) (oi := { dst := some 17, op := Op.unOp UnOp.not 4 (Operand.tmp 16), type := 4, pos := "words.go:95", after := #[{ on := 1, ground := Ground.data }], guard := none }) (v := ?v2_2) (by kernel_rfl) (by kernel_rfl) (by kernel_rfl) (by kernel_rfl) (fun _ _ _ h => h) (Or.inl ⟨by kernel_rfl, ?h2_2⟩) hHeld ?r2_2
            case h2_2 => (intro w hSw; (try dsimp only at hSw); go_simp; try with_reducible rfl)
            try simp only [Act.put, List.setIfInBounds_toArray, List.set_cons_zero, List.set_cons_succ]
            refine wpAnyH_take (i := 3) (oi := { dst := some 18, op := Op.move (Operand.tmp 17), type := 4, pos := "words.go:95", after := #[{ on := 2, ground := Ground.data }, { on := 1, ground := Ground.chain }], guard := none }) (v := ?v2_3) (by kernel_rfl) (by kernel_rfl) (by kernel_rfl) (by kernel_rfl) (fun _ _ _ h => h) (Or.inl ⟨by kernel_rfl, ?h2_3⟩) hHeld ?r2_3
            case h2_3 => (intro w hSw; (try dsimp only at hSw); go_simp; try with_reducible rfl)
            try simp only [Act.put, List.setIfInBounds_toArray, List.set_cons_zero, List.set_cons_succ]
            refine wpAnyH_take (i := 4) (oi := { dst := some 19, op := Op.move (Operand.tmp 3), type := 3, pos := "words.go:95", after := #[{ on := 3, ground := Ground.guard }], guard := some (3, false) }) (v := ?v2_4) (by kernel_rfl) (by kernel_rfl) (by kernel_rfl) (by kernel_rfl) (fun _ _ _ h => h) (Or.inl ⟨by kernel_rfl, ?h2_4⟩) hHeld ?r2_4
            case h2_4 => (intro w hSw; (try dsimp only at hSw); go_simp; try with_reducible rfl)
            try simp only [Act.put, List.setIfInBounds_toArray, List.set_cons_zero, List.set_cons_succ]
            refine wpAnyH_take (i := 5) (oi := { dst := some 20, op := Op.binOp BinOp.gtr 3 (Operand.tmp 19) (Operand.const (Value.int IntKind.i64 0)) 3, type := 4, pos := "words.go:95", after := #[{ on := 4, ground := Ground.data }, { on := 3, ground := Ground.guard }], guard := some (3, false) }) (v := ?v2_5) (by kernel_rfl) (by kernel_rfl) (by kernel_rfl) (by kernel_rfl) (fun _ _ _ h => h) (Or.inl ⟨by kernel_rfl, ?h2_5⟩) hHeld ?r2_5
            case h2_5 => (intro w hSw; (try dsimp only at hSw); go_simp; try with_reducible rfl)
            try simp only [Act.put, List.setIfInBounds_toArray, List.set_cons_zero, List.set_cons_succ]
            refine wpAnyH_take (i := 6) (oi := { dst := some 21, op := Op.move (Operand.tmp 20), type := 4, pos := "words.go:95", after := #[{ on := 5, ground := Ground.data }, { on := 3, ground := Ground.chain }, { on := 3, ground := Ground.guard }], guard := some (3, false) }) (v := ?v2_6) (by kernel_rfl) (by kernel_rfl) (by kernel_rfl) (by kernel_rfl) (fun _ _ _ h => h) (Or.inl ⟨by kernel_rfl, ?h2_6⟩) hHeld ?r2_6
            case h2_6 => (intro w hSw; (try dsimp only at hSw); go_simp; try with_reducible rfl)
            try simp only [Act.put, List.setIfInBounds_toArray, List.set_cons_zero, List.set_cons_succ]
            refine wpAnyH_take (i := 7) (oi := { dst := some 22, op := Op.move (Operand.tmp 0), type := 22, pos := "words.go:95", after := #[{ on := 6, ground := Ground.guard }], guard := some (6, true) }) (v := undef) (by kernel_rfl) (by kernel_rfl) (by kernel_rfl) (by kernel_rfl) (fun _ _ _ h => h) (Or.inr ⟨by kernel_rfl, rfl⟩) hHeld ?_
            try simp only [Act.put, List.setIfInBounds_toArray, List.set_cons_zero, List.set_cons_succ]
            refine wpAnyH_take (i := 8) (oi := { dst := some 23, op := Op.move (Operand.tmp 3), type := 3, pos := "words.go:95", after := #[{ on := 6, ground := Ground.guard }], guard := some (6, true) }) (v := undef) (by kernel_rfl) (by kernel_rfl) (by kernel_rfl) (by kernel_rfl) (fun _ _ _ h => h) (Or.inr ⟨by kernel_rfl, rfl⟩) hHeld ?_
            try simp only [Act.put, List.setIfInBounds_toArray, List.set_cons_zero, List.set_cons_succ]
            refine wpAnyH_take (i := 9) (oi := { dst := some 24, op := Op.binOp BinOp.sub 3 (Operand.tmp 23) (Operand.const (Value.int IntKind.i64 1)) 3, type := 3, pos := "words.go:95", after := #[{ on := 8, ground := Ground.data }, { on := 6, ground := Ground.guard }], guard := some (6, true) }) (v := undef) (by kernel_rfl) (by kernel_rfl) (by kernel_rfl) (by kernel_rfl) (fun _ _ _ h => h) (Or.inr ⟨by kernel_rfl, rfl⟩) hHeld ?_
            try simp only [Act.put, List.setIfInBounds_toArray, List.set_cons_zero, List.set_cons_succ]
            refine wpAnyH_take (i := 10) (oi := { dst := some 25, op := Op.indexAddr 22 (Operand.tmp 22) (Operand.tmp 24), type := 0, pos := "words.go:95", after := #[{ on := 7, ground := Ground.data }, { on := 9, ground := Ground.data }, { on := 6, ground := Ground.guard }], guard := some (6, true) }) (v := undef) (by kernel_rfl) (by kernel_rfl) (by kernel_rfl) (by kernel_rfl) (fun _ _ _ h => h) (Or.inr ⟨by kernel_rfl, rfl⟩) hHeld ?_
            try simp only [Act.put, List.setIfInBounds_toArray, List.set_cons_zero, List.set_cons_succ]
            refine wpAnyH_take (i := 11) (oi := { dst := some 26, op := Op.load 24 (Operand.tmp 25), type := 24, pos := "words.go:95", after := #[{ on := 10, ground := Ground.data }, { on := 6, ground := Ground.guard }], guard := some (6, true) }) (v := undef) (by kernel_rfl) (by kernel_rfl) (by kernel_rfl) (by kernel_rfl) (fun _ _ _ h => h) (Or.inr ⟨by kernel_rfl, rfl⟩) hHeld ?_
            try simp only [Act.put, List.setIfInBounds_toArray, List.set_cons_zero, List.set_cons_succ]
            refine wpAnyH_take (i := 12) (oi := { dst := some 27, op := Op.load 24 (Operand.tmp 4), type := 24, pos := "words.go:95", after := #[{ on := 6, ground := Ground.guard }], guard := some (6, true) }) (v := undef) (by kernel_rfl) (by kernel_rfl) (by kernel_rfl) (by kernel_rfl) (fun _ _ _ h => h) (Or.inr ⟨by kernel_rfl, rfl⟩) hHeld ?_
            try simp only [Act.put, List.setIfInBounds_toArray, List.set_cons_zero, List.set_cons_succ]
            refine wpAnyH_take (i := 13) (oi := { dst := some 28, op := Op.call { callee := Callee.value (Operand.func 41), args := #[Operand.tmp 26, Operand.tmp 27], argTypes := #[24, 24] }, type := 3, pos := "words.go:95", after := #[{ on := 11, ground := Ground.data }, { on := 12, ground := Ground.data }, { on := 6, ground := Ground.chain }, { on := 6, ground := Ground.guard }], guard := some (6, true) }) (v := undef) (by kernel_rfl) (by kernel_rfl) (by kernel_rfl) (by kernel_rfl) (fun _ _ _ h => h) (Or.inr ⟨by kernel_rfl, rfl⟩) hHeld ?_
            try simp only [Act.put, List.setIfInBounds_toArray, List.set_cons_zero, List.set_cons_succ]
            refine wpAnyH_take (i := 14) (oi := { dst := some 29, op := Op.binOp BinOp.geq 3 (Operand.tmp 28) (Operand.const (Value.int IntKind.i64 0)) 3, type := 4, pos := "words.go:95", after := #[{ on := 13, ground := Ground.data }, { on := 6, ground := Ground.guard }], guard := some (6, true) }) (v := undef) (by kernel_rfl) (by kernel_rfl) (by kernel_rfl) (by kernel_rfl) (fun _ _ _ h => h) (Or.inr ⟨by kernel_rfl, rfl⟩) hHeld ?_
            try simp only [Act.put, List.setIfInBounds_toArray, List.set_cons_zero, List.set_cons_succ]
            refine wpAnyH_take (i := 15) (oi := { dst := some 30, op := Op.pick (Operand.tmp 21) (Operand.tmp 29) (Operand.const (Value.bool false)), type := 4, pos := "words.go:95", after := #[{ on := 6, ground := Ground.data }, { on := 14, ground := Ground.data }, { on := 3, ground := Ground.guard }], guard := some (3, false) }) (v := ?v2_15) (by kernel_rfl) (by kernel_rfl) (by kernel_rfl) (by kernel_rfl) (fun _ _ _ h => h) (Or.inl ⟨by kernel_rfl, ?h2_15⟩) hHeld ?r2_15
            case h2_15 => (intro w hSw; (try dsimp only at hSw); go_simp; try with_reducible rfl)
            try simp only [Act.put, List.setIfInBounds_toArray, List.set_cons_zero, List.set_cons_succ]
            refine wpAnyH_take (i := 16) (oi := { dst := some 31, op := Op.pick (Operand.tmp 18) (Operand.const (Value.bool true)) (Operand.tmp 30), type := 4, pos := "words.go:95", after := #[{ on := 3, ground := Ground.data }, { on := 15, ground := Ground.data }], guard := none }) (v := ?v2_16) (by kernel_rfl) (by kernel_rfl) (by kernel_rfl) (by kernel_rfl) (fun _ _ _ h => h) (Or.inl ⟨by kernel_rfl, ?h2_16⟩) hHeld ?r2_16
            case h2_16 => (intro w hSw; (try dsimp only at hSw); go_simp; try with_reducible rfl)
            try simp only [Act.put, List.setIfInBounds_toArray, List.set_cons_zero, List.set_cons_succ]
            refine wpAnyH_take (i := 17) (oi := { dst := some 32, op := Op.move (Operand.tmp 31), type := 4, pos := "words.go:95", after := #[{ on := 16, ground := Ground.data }, { on := 13, ground := Ground.chain }], guard := none }) (v := ?v2_17) (by kernel_rfl) (by kernel_rfl) (by kernel_rfl) (by kernel_rfl) (fun _ _ _ h => h) (Or.inl ⟨by kernel_rfl, ?h2_17⟩) hHeld ?r2_17
            case h2_17 => (intro w hSw; (try dsimp only at hSw); go_simp; try with_reducible rfl)
            try simp only [Act.put, List.setIfInBounds_toArray, List.set_cons_zero, List.set_cons_succ]
            refine wpAnyH_take (i := 18) (oi := { dst := some 33, op := Op.move (Operand.tmp 0), type := 22, pos := "words.go:95", after := #[{ on := 17, ground := Ground.guard }], guard := some (17, false) }) (v := ?v2_18) (by kernel_rfl) (by kernel_rfl) (by kernel_rfl) (by kernel_rfl) (fun _ _ _ h => h) (Or.inl ⟨by kernel_rfl, ?h2_18⟩) hHeld ?r2_18
            case h2_18 => (intro w hSw; (try dsimp only at hSw); go_simp; try with_reducible rfl)
            try simp only [Act.put, List.setIfInBounds_toArray, List.set_cons_zero, List.set_cons_succ]
            refine wpAnyH_take (i := 19) (oi := { dst := some 34, op := Op.move (Operand.tmp 3), type := 3, pos := "words.go:95", after := #[{ on := 17, ground := Ground.guard }], guard := some (17, false) }) (v := ?v2_19) (by kernel_rfl) (by kernel_rfl) (by kernel_rfl) (by kernel_rfl) (fun _ _ _ h => h) (Or.inl ⟨by kernel_rfl, ?h2_19⟩) hHeld ?r2_19
            case h2_19 => (intro w hSw; (try dsimp only at hSw); go_simp; try with_reducible rfl)
            try simp only [Act.put, List.setIfInBounds_toArray, List.set_cons_zero, List.set_cons_succ]
            refine wpAnyH_take (i := 20) (oi := { dst := some 35, op := Op.slice 22 (Operand.tmp 33) none (some (Operand.tmp 34)) none, type := 22, pos := "words.go:95", after := #[{ on := 18, ground := Ground.data }, { on := 19, ground := Ground.data }, { on := 17, ground := Ground.guard }], guard := some (17, false) }) (v := ?v2_20) (by kernel_rfl) (by kernel_rfl) (by kernel_rfl) (by kernel_rfl) (fun _ _ _ h => h) (Or.inl ⟨by kernel_rfl, ?h2_20⟩) hHeld ?r2_20
            case h2_20 => (intro w hSw; (try dsimp only at hSw); go_simp; try with_reducible rfl)
            try simp only [Act.put, List.setIfInBounds_toArray, List.set_cons_zero, List.set_cons_succ]
            refine wpAnyH_take (i := 21) (oi := { dst := some 36, op := Op.makeFunc (Fn.func 49) #[] #[Operand.tmp 4], type := 52, pos := "words.go:95", after := #[{ on := 17, ground := Ground.guard }], guard := some (17, false) }) (v := ?v2_21) (by kernel_rfl) (by kernel_rfl) (by kernel_rfl) (by kernel_rfl) (fun _ _ _ h => h) (Or.inl ⟨by kernel_rfl, ?h2_21⟩) hHeld ?r2_21
            case h2_21 => (intro w hSw; (try dsimp only at hSw); go_simp; try with_reducible rfl)
            try simp only [Act.put, List.setIfInBounds_toArray, List.set_cons_zero, List.set_cons_succ]
            refine wpAnyH_ready (rs := [22]) (by kernel_rfl) (by simp) ?_
            refine AllReadyH.cons (i := 22) (o := { dst := some 37, op := Op.call { callee := Callee.value (Operand.func 42), args := #[Operand.tmp 35, Operand.tmp 36], argTypes := #[22, 52] }, type := 4, pos := "words.go:95", after := #[{ on := 20, ground := Ground.data }, { on := 21, ground := Ground.data }, { on := 17, ground := Ground.chain }, { on := 17, ground := Ground.guard }], guard := some (17, false) }) rfl (fun K hK => ?_) AllReadyH.nil
            go_simp
            refine (contains_take l (ex, ec, esy) _ _ c _ w _ hl hlt (HR.out) hHeld.1 hHeld.2.1 hHeld.2.2.1 hHeld.2.2.2.1 hHeld.2.2.2.2).mono ?_
            rintro e' w3 ⟨rfl, hb3⟩
            rw [HK.out]
            go_wp2_with fail
            refine hK.out _ _ (by exact keep3 (e := (ex, ec, esy)) (by assumption) (by assumption)) (fun hHeld => ?_)
            clear hK K
            try simp only [Act.put, List.setIfInBounds_toArray, List.set_cons_zero, List.set_cons_succ]
            refine wpAnyH_take (i := 23) (oi := { dst := some 38, op := Op.pick (Operand.tmp 32) (Operand.const (Value.bool true)) (Operand.tmp 37), type := 4, pos := "words.go:95", after := #[{ on := 17, ground := Ground.data }, { on := 22, ground := Ground.data }], guard := none }) (v := ?v2_23) (by kernel_rfl) (by kernel_rfl) (by kernel_rfl) (by kernel_rfl) (fun _ _ _ h => h) (Or.inl ⟨by kernel_rfl, ?h2_23⟩) hHeld ?r2_23
            case h2_23 => (intro w hSw; (try dsimp only at hSw); go_simp; try with_reducible rfl)
            try simp only [Act.put, List.setIfInBounds_toArray, List.set_cons_zero, List.set_cons_succ]
            refine wpAnyH_done (by kernel_rfl) ?_ _
            all_goals go_wp2_with fail
            go_roundw
            case rel => exact ⟨0 + 1, by omega, by go_num, hHeld.2.2.2.2, hno.succ (okAt_not hlt HE.out (by rw [okE_eq HRT.out (.inl rfl), HK.out]; rfl))⟩
            case measure => simp [intOf]; omega
          · obtain ⟨j, rfl⟩ : ∃ j, k = j + 1 := ⟨k - 1, by omega⟩
            obtain ⟨b', off', hA', hB', q0, q1, q2⟩ := ((HR.out).below hb).ent (k := j) (by omega)
            cases hA'
            have hjl : l.getD (j + 1 - 1) ([], 0, []) = l[j] := by simp; rw [List.getElem?_eq_getElem (by omega)]; rfl
            have HJ := Lib.hid hjl; clear hjl
            generalize hq : l[j] = q at q0 q1 q2 HJ
            clear hq
            obtain ⟨qx, qc, qy⟩ := q
            rcases Int.lt_or_le (cmpL (qx, qc, qy) (ex, ec, esy)) 0 with hcm | hcm
            · cases hany : (l.take (j + 1)).any fun o => clashL o (ex, ec, esy)
              · have HK := Lib.hid hany; clear hany
                go_wp2_with fail
                obtain ⟨W1, hW1⟩ : ∃ W1 : World, W1 = wr.alloc (.cells #[str ex, byteV ec, str esy] 24) := ⟨_, rfl⟩
                have hbk : Blk W1 wr.heap.size 24 #[str ex, byteV ec, str esy] := by rw [hW1]; exact Blk.new _ _ _
                have hS := (⟨hbk.cell 0, hbk.cell 1, hbk.cell 2, hbk.lt, hW1 ▸ hb.alloc hb.size _⟩ : W1.cell? ⟨wr.heap.size, 0, none⟩ = some (str ex) ∧ W1.cell? ⟨wr.heap.size, 1, none⟩ = some (byteV ec) ∧ W1.cell? ⟨wr.heap.size, 2, none⟩ = some (str esy) ∧ wr.heap.size < W1.heap.size ∧ Below w.heap.size w W1)
                have hX : Below wr.heap.size wr W1 := hW1 ▸ (Below.refl _ _).alloc (Nat.le_refl _) _
                rw [← hW1]
                clear hW1 hbk
                have HW0 : ∀ {o : Nat} {v : Value}, wr.cell? ⟨b, o, none⟩ = some v → W1.cell? ⟨b, o, none⟩ = some v := fun h => (hX.cell (p := ⟨b, _, none⟩) (Nat.lt_of_lt_of_le hB' hb.size)).trans h
                have hS6 : S6 w W1 wr.heap.size (ex, ec, esy) b (off + j * 3) (qx, qc, qy) := ⟨hS.1, hS.2.1, hS.2.2.1, hS.2.2.2.1, hS.2.2.2.2, HW0 q0, HW0 q1, HW0 q2, Nat.lt_of_lt_of_le hB' (Nat.le_trans hb.size (Nat.le_of_lt hS.2.2.2.1))⟩
                have hj0 : (0 : Int) ≤ (j : Int) := by omega
                have hj1 : (j : Int) < (l.length : Int) := by omega
                have hs0 : (0 : Int) ≤ (j : Int) + 1 := by omega
                have hs1 : (j : Int) + 1 ≤ (c : Int) := by omega
                have hwj : IntKind.i64.wrap (j : Int) = j := IntWalk.i64_in _ (by omega)
                have hcd : decide (0 ≤ cmpL (qx, qc, qy) (ex, ec, esy)) = false := by simp; omega
                refine wp_region_held_drew (S := fun W => S6 w W wr.heap.size (ex, ec, esy) b (off + j * 3) (qx, qc, qy)) (by kernel_rfl) (by exact start6 hS6) (fun hHeld => ?_)
                refine wpAnyH_take (i := 0) (oi := { dst := some 15, op := Op.load 24 (Operand.tmp 4), type := 24, pos := "words.go:95", after := #[], guard := none }) (v := ?v3_0) (by kernel_rfl) (by kernel_rfl) (by kernel_rfl) (by kernel_rfl) (fun _ _ _ h => h) (Or.inl ⟨by kernel_rfl, ?h3_0⟩) hHeld ?r3_0
                case h3_0 => (intro w hSw; (try dsimp only at hSw); go_simp; try with_reducible rfl)
                try simp only [Act.put, List.setIfInBounds_toArray, List.set_cons_zero, List.set_cons_succ]
                refine wpAnyH_ready (rs := [1]) (by kernel_rfl) (by simp) ?_
                refine AllReadyH.cons (i := 1) (o := { dst := some 16, op := Op.call { callee := Callee.value (Operand.func 24), args := #[Operand.tmp 15], argTypes := #[24] }, type := 4, pos := "words.go:95", after := #[{ on := 0, ground := Ground.data }], guard := none }) rfl (fun K hK => ?_) AllReadyH.nil
                go_simp
                refine (right_any _ _ _ _ hxl).mono ?_
                rintro e' w1 ⟨rfl, hb1⟩
                rw [HRT.out]
                go_wp2_with fail
                refine hK.out _ _ (by exact keep6 (by assumption) (by assumption)) (fun hHeld => ?_)
                clear hK K
                try simp only [Act.put, List.setIfInBounds_toArray, List.set_cons_zero, List.set_cons_succ]
                refine wpAnyH_take (i := 2) (oi := { dst := some 17, op := Op.unOp UnOp.not 4 (Operand.tmp 16), type := 4, pos := "words.go:95", after := #[{ on := 1, ground := Ground.data }], guard := none }) (v := ?v3_2) (by kernel_rfl) (by kernel_rfl) (by kernel_rfl) (by kernel_rfl) (fun _ _ _ h => h) (Or.inl ⟨by kernel_rfl, ?h3_2⟩) hHeld ?r3_2
                case h3_2 => (intro w hSw; (try dsimp only at hSw); go_simp; try with_reducible rfl)
                try simp only [Act.put, List.setIfInBounds_toArray, List.set_cons_zero, List.set_cons_succ]
                refine wpAnyH_take (i := 3) (oi := { dst := some 18, op := Op.move (Operand.tmp 17), type := 4, pos := "words.go:95", after := #[{ on := 2, ground := Ground.data }, { on := 1, ground := Ground.chain }], guard := none }) (v := ?v3_3) (by kernel_rfl) (by kernel_rfl) (by kernel_rfl) (by kernel_rfl) (fun _ _ _ h => h) (Or.inl ⟨by kernel_rfl, ?h3_3⟩) hHeld ?r3_3
                case h3_3 => (intro w hSw; (try dsimp only at hSw); go_simp; try with_reducible rfl)
                try simp only [Act.put, List.setIfInBounds_toArray, List.set_cons_zero, List.set_cons_succ]
                refine wpAnyH_take (i := 4) (oi := { dst := some 19, op := Op.move (Operand.tmp 3), type := 3, pos := "words.go:95", after := #[{ on := 3, ground := Ground.guard }], guard := some (3, false) }) (v := ?v3_4) (by kernel_rfl) (by kernel_rfl) (by kernel_rfl) (by kernel_rfl) (fun _ _ _ h => h) (Or.inl ⟨by kernel_rfl, ?h3_4⟩) hHeld ?r3_4
                case h3_4 => (intro w hSw; (try dsimp only at hSw); go_simp; try with_reducible rfl)
                try simp only [Act.put, List.setIfInBounds_toArray, List.set_cons_zero, List.set_cons_succ]
                refine wpAnyH_take (i := 5) (oi := { dst := some 20, op := Op.binOp BinOp.gtr 3 (Operand.tmp 19) (Operand.const (Value.int IntKind.i64 0)) 3, type := 4, pos := "words.go:95", after := #[{ on := 4, ground := Ground.data }, { on := 3, ground := Ground.guard }], guard := some (3, false) }) (v := ?v3_5) (by kernel_rfl) (by kernel_rfl) (by kernel_rfl) (by kernel_rfl) (fun _ _ _ h => h) (Or.inl ⟨by kernel_rfl, ?h3_5⟩) hHeld ?r3_5
                case h3_5 => (intro w hSw; (try dsimp only at hSw); go_simp; try with_reducible rfl)
                try simp only [Act.put, List.setIfInBounds_toArray, List.set_cons_zero, List.set_cons_succ]
                refine wpAnyH_take (i := 6) (oi := { dst := some 21, op := Op.move (Operand.tmp 20), type := 4, pos := "words.go:95", after := #[{ on := 5, ground := Ground.data }, { on := 3, ground := Ground.chain }, { on := 3, ground := Ground.guard }], guard := some (3, false) }) (v := ?v3_6) (by kernel_rfl) (by kernel_rfl) (by kernel_rfl) (by kernel_rfl) (fun _ _ _ h => h) (Or.inl ⟨by kernel_rfl, ?h3_6⟩) hHeld ?r3_6
                case h3_6 => (intro w hSw; (try dsimp only at hSw); go_simp; try with_reducible rfl)
                try simp only [Act.put, List.setIfInBounds_toArray, List.set_cons_zero, List.set_cons_succ]
                refine wpAnyH_take (i := 7) (oi := { dst := some 22, op := Op.move (Operand.tmp 0), type := 22, pos := "words.go:95", after := #[{ on := 6, ground := Ground.guard }], guard := some (6, true) }) (v := ?v3_7) (by kernel_rfl) (by kernel_rfl) (by kernel_rfl) (by kernel_rfl) (fun _ _ _ h => h) (Or.inl ⟨by kernel_rfl, ?h3_7⟩) hHeld ?r3_7
                case h3_7 => (intro w hSw; (try dsimp only at hSw); go_simp; try with_reducible rfl)
                try simp only [Act.put, List.setIfInBounds_toArray, List.set_cons_zero, List.set_cons_succ]
                refine wpAnyH_take (i := 8) (oi := { dst := some 23, op := Op.move (Operand.tmp 3), type := 3, pos := "words.go:95", after := #[{ on := 6, ground := Ground.guard }], guard := some (6, true) }) (v := ?v3_8) (by kernel_rfl) (by kernel_rfl) (by kernel_rfl) (by kernel_rfl) (fun _ _ _ h => h) (Or.inl ⟨by kernel_rfl, ?h3_8⟩) hHeld ?r3_8
                case h3_8 => (intro w hSw; (try dsimp only at hSw); go_simp; try with_reducible rfl)
                try simp only [Act.put, List.setIfInBounds_toArray, List.set_cons_zero, List.set_cons_succ]
                refine wpAnyH_take (i := 9) (oi := { dst := some 24, op := Op.binOp BinOp.sub 3 (Operand.tmp 23) (Operand.const (Value.int IntKind.i64 1)) 3, type := 3, pos := "words.go:95", after := #[{ on := 8, ground := Ground.data }, { on := 6, ground := Ground.guard }], guard := some (6, true) }) (v := ?v3_9) (by kernel_rfl) (by kernel_rfl) (by kernel_rfl) (by kernel_rfl) (fun _ _ _ h => h) (Or.inl ⟨by kernel_rfl, ?h3_9⟩) hHeld ?r3_9
                case h3_9 => (intro w hSw; (try dsimp only at hSw); go_simp; try with_reducible rfl)
                try simp only [Act.put, List.setIfInBounds_toArray, List.set_cons_zero, List.set_cons_succ]
                refine wpAnyH_take (i := 10) (oi := { dst := some 25, op := Op.indexAddr 22 (Operand.tmp 22) (Operand.tmp 24), type := 0, pos := "words.go:95", after := #[{ on := 7, ground := Ground.data }, { on := 9, ground := Ground.data }, { on := 6, ground := Ground.guard }], guard := some (6, true) }) (v := ?v3_10) (by kernel_rfl) (by kernel_rfl) (by kernel_rfl) (by kernel_rfl) (fun _ _ _ h => h) (Or.inl ⟨by kernel_rfl, ?h3_10⟩) hHeld ?r3_10
                case h3_10 => (intro w hSw; (try dsimp only at hSw); go_simp; try with_reducible rfl)
                try simp only [Act.put, List.setIfInBounds_toArray, List.set_cons_zero, List.set_cons_succ]
                refine wpAnyH_take (i := 11) (oi := { dst := some 26, op := Op.load 24 (Operand.tmp 25), type := 24, pos := "words.go:95", after := #[{ on := 10, ground := Ground.data }, { on := 6, ground := Ground.guard }], guard := some (6, true) }) (v := ?v3_11) (by kernel_rfl) (by kernel_rfl) (by kernel_rfl) (by kernel_rfl) (fun _ _ _ h => h) (Or.inl ⟨by kernel_rfl, ?h3_11⟩) hHeld ?r3_11
                case h3_11 => (intro w hSw; (try dsimp only at hSw); go_simp; try with_reducible rfl)
                try simp only [Act.put, List.setIfInBounds_toArray, List.set_cons_zero, List.set_cons_succ]
                refine wpAnyH_take (i := 12) (oi := { dst := some 27, op := Op.load 24 (Operand.tmp 4), type := 24, pos := "words.go:95", after := #[{ on := 6, ground := Ground.guard }], guard := some (6, true) }) (v := ?v3_12) (by kernel_rfl) (by kernel_rfl) (by kernel_rfl) (by kernel_rfl) (fun _ _ _ h => h) (Or.inl ⟨by kernel_rfl, ?h3_12⟩) hHeld ?r3_12
                case h3_12 => (intro w hSw; (try dsimp only at hSw); go_simp; try with_reducible rfl)
                try simp only [Act.put, List.setIfInBounds_toArray, List.set_cons_zero, List.set_cons_succ]
                refine wpAnyH_ready (rs := [13]) (by kernel_rfl) (by simp) ?_
                refine AllReadyH.cons (i := 13) (o := { dst := some 28, op := Op.call { callee := Callee.value (Operand.func 41), args := #[Operand.tmp 26, Operand.tmp 27], argTypes := #[24, 24] }, type := 3, pos := "words.go:95", after := #[{ on := 11, ground := Ground.data }, { on := 12, ground := Ground.data }, { on := 6, ground := Ground.chain }, { on := 6, ground := Ground.guard }], guard := some (6, true) }) rfl (fun K hK => ?_) AllReadyH.nil
                go_simp
                refine (compare_any (qx, qc, qy) (ex, ec, esy) _).mono ?_
                rintro e' w2 ⟨rfl, hb2⟩
                go_wp2_with fail
                refine hK.out _ _ (by exact keep6 (by assumption) (by assumption)) (fun hHeld => ?_)
                clear hK K
                try simp only [Act.put, List.setIfInBounds_toArray, List.set_cons_zero, List.set_cons_succ]
                refine wpAnyH_take (i := 14) (oi := { dst := some 29, op := Op.binOp BinOp.geq 3 (Operand.tmp 28) (Operand.const (Value.int IntKind.i64 0)) 3, type := 4, pos := "words.go:95", after := #[{ on := 13, ground := Ground.data }, { on := 6, ground := Ground.guard }], guard := some (6, true) }) (v := ?v3_14) (by kernel_rfl) (by kernel_rfl) (by kernel_rfl) (by kernel_rfl) (fun _ _ _ h => h) (Or.inl ⟨by kernel_rfl, ?h3_14⟩) hHeld ?r3_14
                case h3_14 => (intro w hSw; (try dsimp only at hSw); go_simp; try with_reducible rfl)
                try simp only [Act.put, List.setIfInBounds_toArray, List.set_cons_zero, List.set_cons_succ]
                refine wpAnyH_take (i := 15) (oi := { dst := some 30, op := Op.pick (Operand.tmp 21) (Operand.tmp 29) (Operand.const (Value.bool false)), type := 4, pos := "words.go:95", after := #[{ on := 6, ground := Ground.data }, { on := 14, ground := Ground.data }, { on := 3, ground := Ground.guard }], guard := some (3, false) }) (v := ?v3_15) (by kernel_rfl) (by kernel_rfl) (by kernel_rfl) (by kernel_rfl) (fun _ _ _ h => h) (Or.inl ⟨by kernel_rfl, ?h3_15⟩) hHeld ?r3_15
                case h3_15 => (intro w hSw; (try dsimp only at hSw); go_simp; try with_reducible rfl)
                try simp only [Act.put, List.setIfInBounds_toArray, List.set_cons_zero, List.set_cons_succ]
                refine wpAnyH_take (i := 16) (oi := { dst := some 31, op := Op.pick (Operand.tmp 18) (Operand.const (Value.bool true)) (Operand.tmp 30), type := 4, pos := "words.go:95", after := #[{ on := 3, ground := Ground.data }, { on := 15, ground := Ground.data }], guard := none }) (v := ?v3_16) (by kernel_rfl) (by kernel_rfl) (by kernel_rfl) (by kernel_rfl) (fun _ _ _ h => h) (Or.inl ⟨by kernel_rfl, ?h3_16⟩) hHeld ?r3_16
                case h3_16 => (intro w hSw; (try dsimp only at hSw); go_simp; try with_reducible rfl)
                try simp only [Act.put, List.setIfInBounds_toArray, List.set_cons_zero, List.set_cons_succ]
                refine wpAnyH_take (i := 17) (oi := { dst := some 32, op := Op.move (Operand.tmp 31), type := 4, pos := "words.go:95", after := #[{ on := 16, ground := Ground.data }, { on := 13, ground := Ground.chain }], guard := none }) (v := ?v3_17) (by kernel_rfl) (by kernel_rfl) (by kernel_rfl) (by kernel_rfl) (fun _ _ _ h => h) (Or.inl ⟨by kernel_rfl, ?h3_17⟩) hHeld ?r3_17
                case h3_17 => (intro w hSw; (try dsimp only at hSw); go_simp; try with_reducible rfl)
                try simp only [Act.put, List.setIfInBounds_toArray, List.set_cons_zero, List.set_cons_succ]
                refine wpAnyH_take (i := 18) (oi := { dst := some 33, op := Op.move (Operand.tmp 0), type := 22, pos := "words.go:95", after := #[{ on := 17, ground := Ground.guard }], guard := some (17, false) }) (v := ?v3_18) (by kernel_rfl) (by kernel_rfl) (by kernel_rfl) (by kernel_rfl) (fun _ _ _ h => h) (Or.inl ⟨by kernel_rfl, ?h3_18⟩) hHeld ?r3_18
                case h3_18 => (intro w hSw; (try dsimp only at hSw); go_simp; try with_reducible rfl)
                try simp only [Act.put, List.setIfInBounds_toArray, List.set_cons_zero, List.set_cons_succ]
                refine wpAnyH_take (i := 19) (oi := { dst := some 34, op := Op.move (Operand.tmp 3), type := 3, pos := "words.go:95", after := #[{ on := 17, ground := Ground.guard }], guard := some (17, false) }) (v := ?v3_19) (by kernel_rfl) (by kernel_rfl) (by kernel_rfl) (by kernel_rfl) (fun _ _ _ h => h) (Or.inl ⟨by kernel_rfl, ?h3_19⟩) hHeld ?r3_19
                case h3_19 => (intro w hSw; (try dsimp only at hSw); go_simp; try with_reducible rfl)
                try simp only [Act.put, List.setIfInBounds_toArray, List.set_cons_zero, List.set_cons_succ]
                refine wpAnyH_take (i := 20) (oi := { dst := some 35, op := Op.slice 22 (Operand.tmp 33) none (some (Operand.tmp 34)) none, type := 22, pos := "words.go:95", after := #[{ on := 18, ground := Ground.data }, { on := 19, ground := Ground.data }, { on := 17, ground := Ground.guard }], guard := some (17, false) }) (v := ?v3_20) (by kernel_rfl) (by kernel_rfl) (by kernel_rfl) (by kernel_rfl) (fun _ _ _ h => h) (Or.inl ⟨by kernel_rfl, ?h3_20⟩) hHeld ?r3_20
                case h3_20 => (intro w hSw; (try dsimp only at hSw); go_simp; try with_reducible rfl)
                try simp only [Act.put, List.setIfInBounds_toArray, List.set_cons_zero, List.set_cons_succ]
                refine wpAnyH_take (i := 21) (oi := { dst := some 36, op := Op.makeFunc (Fn.func 49) #[] #[Operand.tmp 4], type := 52, pos := "words.go:95", after := #[{ on := 17, ground := Ground.guard }], guard := some (17, false) }) (v := ?v3_21) (by kernel_rfl) (by kernel_rfl) (by kernel_rfl) (by kernel_rfl) (fun _ _ _ h => h) (Or.inl ⟨by kernel_rfl, ?h3_21⟩) hHeld ?r3_21
                case h3_21 => (intro w hSw; (try dsimp only at hSw); go_simp; try with_reducible rfl)
                try simp only [Act.put, List.setIfInBounds_toArray, List.set_cons_zero, List.set_cons_succ]
                refine wpAnyH_ready (rs := [22]) (by kernel_rfl) (by simp) ?_
                refine AllReadyH.cons (i := 22) (o := { dst := some 37, op := Op.call { callee := Callee.value (Operand.func 42), args := #[Operand.tmp 35, Operand.tmp 36], argTypes := #[22, 52] }, type := 4, pos := "words.go:95", after := #[{ on := 20, ground := Ground.data }, { on := 21, ground := Ground.data }, { on := 17, ground := Ground.chain }, { on := 17, ground := Ground.guard }], guard := some (17, false) }) rfl (fun K hK => ?_) AllReadyH.nil
                go_simp
                refine (contains_take l (ex, ec, esy) _ _ c _ w _ hl hlt (HR.out) hHeld.1 hHeld.2.1 hHeld.2.2.1 hHeld.2.2.2.1 hHeld.2.2.2.2.1).mono ?_
                rintro e' w3 ⟨rfl, hb3⟩
                rw [HK.out]
                go_wp2_with fail
                refine hK.out _ _ (by exact keep6 (by assumption) (by assumption)) (fun hHeld => ?_)
                clear hK K
                try simp only [Act.put, List.setIfInBounds_toArray, List.set_cons_zero, List.set_cons_succ]
                refine wpAnyH_take (i := 23) (oi := { dst := some 38, op := Op.pick (Operand.tmp 32) (Operand.const (Value.bool true)) (Operand.tmp 37), type := 4, pos := "words.go:95", after := #[{ on := 17, ground := Ground.data }, { on := 22, ground := Ground.data }], guard := none }) (v := ?v3_23) (by kernel_rfl) (by kernel_rfl) (by kernel_rfl) (by kernel_rfl) (fun _ _ _ h => h) (Or.inl ⟨by kernel_rfl, ?h3_23⟩) hHeld ?r3_23
                case h3_23 => (intro w hSw; (try dsimp only at hSw); go_simp; try with_reducible rfl)
                try simp only [Act.put, List.setIfInBounds_toArray, List.set_cons_zero, List.set_cons_succ]
                refine wpAnyH_done (by kernel_rfl) ?_ _
                all_goals clear hwj
                all_goals go_wp2_with fail
                go_roundw
                case rel => exact ⟨j + 1 + 1, by omega, by go_num, hHeld.2.2.2.2.1, hno.succ (okAt_not hlt HE.out (by rw [okE_eq HRT.out (.inr (by rw [HJ.out]; exact hcm)), HK.out]; rfl))⟩
                case measure => simp [intOf]; omega
              · have HK := Lib.hid hany; clear hany
                go_wp2_with fail
                obtain ⟨W1, hW1⟩ : ∃ W1 : World, W1 = wr.alloc (.cells #[str ex, byteV ec, str esy] 24) := ⟨_, rfl⟩
                have hbk : Blk W1 wr.heap.size 24 #[str ex, byteV ec, str esy] := by rw [hW1]; exact Blk.new _ _ _
                have hS := (⟨hbk.cell 0, hbk.cell 1, hbk.cell 2, hbk.lt, hW1 ▸ hb.alloc hb.size _⟩ : W1.cell? ⟨wr.heap.size, 0, none⟩ = some (str ex) ∧ W1.cell? ⟨wr.heap.size, 1, none⟩ = some (byteV ec) ∧ W1.cell? ⟨wr.heap.size, 2, none⟩ = some (str esy) ∧ wr.heap.size < W1.heap.size ∧ Below w.heap.size w W1)
                have hX : Below wr.heap.size wr W1 := hW1 ▸ (Below.refl _ _).alloc (Nat.le_refl _) _
                rw [← hW1]
                clear hW1 hbk
                have HW0 : ∀ {o : Nat} {v : Value}, wr.cell? ⟨b, o, none⟩ = some v → W1.cell? ⟨b, o, none⟩ = some v := fun h => (hX.cell (p := ⟨b, _, none⟩) (Nat.lt_of_lt_of_le hB' hb.size)).trans h
                have hS6 : S6 w W1 wr.heap.size (ex, ec, esy) b (off + j * 3) (qx, qc, qy) := ⟨hS.1, hS.2.1, hS.2.2.1, hS.2.2.2.1, hS.2.2.2.2, HW0 q0, HW0 q1, HW0 q2, Nat.lt_of_lt_of_le hB' (Nat.le_trans hb.size (Nat.le_of_lt hS.2.2.2.1))⟩
                have hj0 : (0 : Int) ≤ (j : Int) := by omega
                have hj1 : (j : Int) < (l.length : Int) := by omega
                have hs0 : (0 : Int) ≤ (j : Int) + 1 := by omega
                have hs1 : (j : Int) + 1 ≤ (c : Int) := by omega
                have hwj : IntKind.i64.wrap (j : Int) = j := IntWalk.i64_in _ (by omega)
                have hcd : decide (0 ≤ cmpL (qx, qc, qy) (ex, ec, esy)) = false := by simp; omega
                refine wp_region_held_drew (S := fun W => S6 w W wr.heap.size (ex, ec, esy) b (off + j * 3) (qx, qc, qy)) (by kernel_rfl) (by exact start6 hS6) (fun hHeld => ?_)
                refine wpAnyH_take (i := 0) (oi := { dst := some 15, op := Op.load 24 (Operand.tmp 4), type := 24, pos := "words.go:95", after := #[], guard := none }) (v := ?v4_0) (by kernel_rfl) (by kernel_rfl) (by kernel_rfl) (by kernel_rfl) (fun _ _ _ h => h) (Or.inl ⟨by kernel_rfl, ?h4_0⟩) hHeld ?r4_0
                case h4_0 => (intro w hSw; (try dsimp only at hSw); go_simp; try with_reducible rfl)
                try simp only [Act.put, List.setIfInBounds_toArray, List.set_cons_zero, List.set_cons_succ]
                refine wpAnyH_ready (rs := [1]) (by kernel_rfl) (by simp) ?_
                refine AllReadyH.cons (i := 1) (o := { dst := some 16, op := Op.call { callee := Callee.value (Operand.func 24), args := #[Operand.tmp 15], argTypes := #[24] }, type := 4, pos := "words.go:95", after := #[{ on := 0, ground := Ground.data }], guard := none }) rfl (fun K hK => ?_) AllReadyH.nil
                go_simp
                refine (right_any _ _ _ _ hxl).mono ?_
                rintro e' w1 ⟨rfl, hb1⟩
                rw [HRT.out]
                go_wp2_with fail
                refine hK.out _ _ (by exact keep6 (by assumption) (by assumption)) (fun hHeld => ?_)
                clear hK K
                try simp only [Act.put, List.setIfInBounds_toArray, List.set_cons_zero, List.set_cons_succ]
                refine wpAnyH_take (i := 2) (oi := { dst := some 17, op := Op.unOp UnOp.not 4 (Operand.tmp 16), type := 4, pos := "words.go:95", after := #[{ on := 1, ground := Ground.data }], guard := none }) (v := ?v4_2) (by kernel_rfl) (by kernel_rfl) (by kernel_rfl) (by kernel_rfl) (fun _ _ _ h => h) (Or.inl ⟨by kernel_rfl, ?h4_2⟩) hHeld ?r4_2
                case h4_2 => (intro w hSw; (try dsimp only at hSw); go_simp; try with_reducible rfl)
                try simp only [Act.put, List.setIfInBounds_toArray, List.set_cons_zero, List.set_cons_succ]
                refine wpAnyH_take (i := 3) (oi := { dst := some 18, op := Op.move (Operand.tmp 17), type := 4, pos := "words.go:95", after := #[{ on := 2, ground := Ground.data }, { on := 1, ground := Ground.chain }], guard := none }) (v := ?v4_3) (by kernel_rfl) (by kernel_rfl) (by kernel_rfl) (by kernel_rfl) (fun _ _ _ h => h) (Or.inl ⟨by kernel_rfl, ?h4_3⟩) hHeld ?r4_3
                case h4_3 => (intro w hSw; (try dsimp only at hSw); go_simp; try with_reducible rfl)
                try simp only [Act.put, List.setIfInBounds_toArray, List.set_cons_zero, List.set_cons_succ]
                refine wpAnyH_take (i := 4) (oi := { dst := some 19, op := Op.move (Operand.tmp 3), type := 3, pos := "words.go:95", after := #[{ on := 3, ground := Ground.guard }], guard := some (3, false) }) (v := ?v4_4) (by kernel_rfl) (by kernel_rfl) (by kernel_rfl) (by kernel_rfl) (fun _ _ _ h => h) (Or.inl ⟨by kernel_rfl, ?h4_4⟩) hHeld ?r4_4
                case h4_4 => (intro w hSw; (try dsimp only at hSw); go_simp; try with_reducible rfl)
                try simp only [Act.put, List.setIfInBounds_toArray, List.set_cons_zero, List.set_cons_succ]
                refine wpAnyH_take (i := 5) (oi := { dst := some 20, op := Op.binOp BinOp.gtr 3 (Operand.tmp 19) (Operand.const (Value.int IntKind.i64 0)) 3, type := 4, pos := "words.go:95", after := #[{ on := 4, ground := Ground.data }, { on := 3, ground := Ground.guard }], guard := some (3, false) }) (v := ?v4_5) (by kernel_rfl) (by kernel_rfl) (by kernel_rfl) (by kernel_rfl) (fun _ _ _ h => h) (Or.inl ⟨by kernel_rfl, ?h4_5⟩) hHeld ?r4_5
                case h4_5 => (intro w hSw; (try dsimp only at hSw); go_simp; try with_reducible rfl)
                try simp only [Act.put, List.setIfInBounds_toArray, List.set_cons_zero, List.set_cons_succ]
                refine wpAnyH_take (i := 6) (oi := { dst := some 21, op := Op.move (Operand.tmp 20), type := 4, pos := "words.go:95", after := #[{ on := 5, ground := Ground.data }, { on := 3, ground := Ground.chain }, { on := 3, ground := Ground.guard }], guard := some (3, false) }) (v := ?v4_6) (by kernel_rfl) (by kernel_rfl) (by kernel_rfl) (by kernel_rfl) (fun _ _ _ h => h) (Or.inl ⟨by kernel_rfl, ?h4_6⟩) hHeld ?r4_6
                case h4_6 => (intro w hSw; (try dsimp only at hSw); go_simp; try with_reducible rfl)
                try simp only [Act.put, List.setIfInBounds_toArray, List.set_cons_zero, List.set_cons_succ]
                refine wpAnyH_take (i := 7) (oi := { dst := some 22, op := Op.move (Operand.tmp 0), type := 22, pos := "words.go:95", after := #[{ on := 6, ground := Ground.guard }], guard := some (6, true) }) (v := ?v4_7) (by kernel_rfl) (by kernel_rfl) (by kernel_rfl) (by kernel_rfl) (fun _ _ _ h => h) (Or.inl ⟨by kernel_rfl, ?h4_7⟩) hHeld ?r4_7
                case h4_7 => (intro w hSw; (try dsimp only at hSw); go_simp; try with_reducible rfl)
                try simp only [Act.put, List.setIfInBounds_toArray, List.set_cons_zero, List.set_cons_succ]
                refine wpAnyH_take (i := 8) (oi := { dst := some 23, op := Op.move (Operand.tmp 3), type := 3, pos := "words.go:95", after := #[{ on := 6, ground := Ground.guard }], guard := some (6, true) }) (v := ?v4_8) (by kernel_rfl) (by kernel_rfl) (by kernel_rfl) (by kernel_rfl) (fun _ _ _ h => h) (Or.inl ⟨by kernel_rfl, ?h4_8⟩) hHeld ?r4_8
                case h4_8 => (intro w hSw; (try dsimp only at hSw); go_simp; try with_reducible rfl)
                try simp only [Act.put, List.setIfInBounds_toArray, List.set_cons_zero, List.set_cons_succ]
                refine wpAnyH_take (i := 9) (oi := { dst := some 24, op := Op.binOp BinOp.sub 3 (Operand.tmp 23) (Operand.const (Value.int IntKind.i64 1)) 3, type := 3, pos := "words.go:95", after := #[{ on := 8, ground := Ground.data }, { on := 6, ground := Ground.guard }], guard := some (6, true) }) (v := ?v4_9) (by kernel_rfl) (by kernel_rfl) (by kernel_rfl) (by kernel_rfl) (fun _ _ _ h => h) (Or.inl ⟨by kernel_rfl, ?h4_9⟩) hHeld ?r4_9
                case h4_9 => (intro w hSw; (try dsimp only at hSw); go_simp; try with_reducible rfl)
                try simp only [Act.put, List.setIfInBounds_toArray, List.set_cons_zero, List.set_cons_succ]
                refine wpAnyH_take (i := 10) (oi := { dst := some 25, op := Op.indexAddr 22 (Operand.tmp 22) (Operand.tmp 24), type := 0, pos := "words.go:95", after := #[{ on := 7, ground := Ground.data }, { on := 9, ground := Ground.data }, { on := 6, ground := Ground.guard }], guard := some (6, true) }) (v := ?v4_10) (by kernel_rfl) (by kernel_rfl) (by kernel_rfl) (by kernel_rfl) (fun _ _ _ h => h) (Or.inl ⟨by kernel_rfl, ?h4_10⟩) hHeld ?r4_10
                case h4_10 => (intro w hSw; (try dsimp only at hSw); go_simp; try with_reducible rfl)
                try simp only [Act.put, List.setIfInBounds_toArray, List.set_cons_zero, List.set_cons_succ]
                refine wpAnyH_take (i := 11) (oi := { dst := some 26, op := Op.load 24 (Operand.tmp 25), type := 24, pos := "words.go:95", after := #[{ on := 10, ground := Ground.data }, { on := 6, ground := Ground.guard }], guard := some (6, true) }) (v := ?v4_11) (by kernel_rfl) (by kernel_rfl) (by kernel_rfl) (by kernel_rfl) (fun _ _ _ h => h) (Or.inl ⟨by kernel_rfl, ?h4_11⟩) hHeld ?r4_11
                case h4_11 => (intro w hSw; (try dsimp only at hSw); go_simp; try with_reducible rfl)
                try simp only [Act.put, List.setIfInBounds_toArray, List.set_cons_zero, List.set_cons_succ]
                refine wpAnyH_take (i := 12) (oi := { dst := some 27, op := Op.load 24 (Operand.tmp 4), type := 24, pos := "words.go:95", after := #[{ on := 6, ground := Ground.guard }], guard := some (6, true) }) (v := ?v4_12) (by kernel_rfl) (by kernel_rfl) (by kernel_rfl) (by kernel_rfl) (fun _ _ _ h => h) (Or.inl ⟨by kernel_rfl, ?h4_12⟩) hHeld ?r4_12
                case h4_12 => (intro w hSw; (try dsimp only at hSw); go_simp; try with_reducible rfl)
                try simp only [Act.put, List.setIfInBounds_toArray, List.set_cons_zero, List.set_cons_succ]
                refine wpAnyH_ready (rs := [13]) (by kernel_rfl) (by simp) ?_
                refine AllReadyH.cons (i := 13) (o := { dst := some 28, op := Op.call { callee := Callee.value (Operand.func 41), args := #[Operand.tmp 26, Operand.tmp 27], argTypes := #[24, 24] }, type := 3, pos := "words.go:95", after := #[{ on := 11, ground := Ground.data }, { on := 12, ground := Ground.data }, { on := 6, ground := Ground.chain }, { on := 6, ground := Ground.guard }], guard := some (6, true) }) rfl (fun K hK => ?_) AllReadyH.nil
                go_simp
                refine (compare_any (qx, qc, qy) (ex, ec, esy) _).mono ?_
                rintro e' w2 ⟨rfl, hb2⟩
                go_wp2_with fail
                refine hK.out _ _ (by exact keep6 (by assumption) (by assumption)) (fun hHeld => ?_)
                clear hK K
                try simp only [Act.put, List.setIfInBounds_toArray, List.set_cons_zero, List.set_cons_succ]
                refine wpAnyH_take (i := 14) (oi := { dst := some 29, op := Op.binOp BinOp.geq 3 (Operand.tmp 28) (Operand.const (Value.int IntKind.i64 0)) 3, type := 4, pos := "words.go:95", after := #[{ on := 13, ground := Ground.data }, { on := 6, ground := Ground.guard }], guard := some (6, true) }) (v := ?v4_14) (by kernel_rfl) (by kernel_rfl) (by kernel_rfl) (by kernel_rfl) (fun _ _ _ h => h) (Or.inl ⟨by kernel_rfl, ?h4_14⟩) hHeld ?r4_14
                case h4_14 => (intro w hSw; (try dsimp only at hSw); go_simp; try with_reducible rfl)
                try simp only [Act.put, List.setIfInBounds_toArray, List.set_cons_zero, List.set_cons_succ]
                refine wpAnyH_take (i := 15) (oi := { dst := some 30, op := Op.pick (Operand.tmp 21) (Operand.tmp 29) (Operand.const (Value.bool false)), type := 4, pos := "words.go:95", after := #[{ on := 6, ground := Ground.data }, { on := 14, ground := Ground.data }, { on := 3, ground := Ground.guard }], guard := some (3, false) }) (v := ?v4_15) (by kernel_rfl) (by kernel_rfl) (by kernel_rfl) (by kernel_rfl) (fun _ _ _ h => h) (Or.inl ⟨by kernel_rfl, ?h4_15⟩) hHeld ?r4_15
                case h4_15 => (intro w hSw; (try dsimp only at hSw); go_simp; try with_reducible rfl)
                try simp only [Act.put, List.setIfInBounds_toArray, List.set_cons_zero, List.set_cons_succ]
                refine wpAnyH_take (i := 16) (oi := { dst := some 31, op := Op.pick (Operand.tmp 18) (Operand.const (Value.bool true)) (Operand.tmp 30), type := 4, pos := "words.go:95", after := #[{ on := 3, ground := Ground.data }, { on := 15, ground := Ground.data }], guard := none }) (v := ?v4_16) (by kernel_rfl) (by kernel_rfl) (by kernel_rfl) (by kernel_rfl) (fun _ _ _ h => h) (Or.inl ⟨by kernel_rfl, ?h4_16⟩) hHeld ?r4_16
                case h4_16 => (intro w hSw; (try dsimp only at hSw); go_simp; try with_reducible rfl)
                try simp only [Act.put, List.setIfInBounds_toArray, List.set_cons_zero, List.set_cons_succ]
                refine wpAnyH_take (i := 17) (oi := { dst := some 32, op := Op.move (Operand.tmp 31), type := 4, pos := "words.go:95", after := #[{ on := 16, ground := Ground.data }, { on := 13, ground := Ground.chain }], guard := none }) (v := ?v4_17) (by kernel_rfl) (by kernel_rfl) (by kernel_rfl) (by kernel_rfl) (fun _ _ _ h => h) (Or.inl ⟨by kernel_rfl, ?h4_17⟩) hHeld ?r4_17
                case h4_17 => (intro w hSw; (try dsimp only at hSw); go_simp; try with_reducible rfl)
                try simp only [Act.put, List.setIfInBounds_toArray, List.set_cons_zero, List.set_cons_succ]
                refine wpAnyH_take (i := 18) (oi := { dst := some 33, op := Op.move (Operand.tmp 0), type := 22, pos := "words.go:95", after := #[{ on := 17, ground := Ground.guard }], guard := some (17, false) }) (v := ?v4_18) (by kernel_rfl) (by kernel_rfl) (by kernel_rfl) (by kernel_rfl) (fun _ _ _ h => h) (Or.inl ⟨by kernel_rfl, ?h4_18⟩) hHeld ?r4_18
                case h4_18 => (intro w hSw; (try dsimp only at hSw); go_simp; try with_reducible rfl)
                try simp only [Act.put, List.setIfInBounds_toArray, List.set_cons_zero, List.set_cons_succ]
                refine wpAnyH_take (i := 19) (oi := { dst := some 34, op := Op.move (Operand.tmp 3), type := 3, pos := "words.go:95", after := #[{ on := 17, ground := Ground.guard }], guard := some (17, false) }) (v := ?v4_19) (by kernel_rfl) (by kernel_rfl) (by kernel_rfl) (by kernel_rfl) (fun _ _ _ h => h) (Or.inl ⟨by kernel_rfl, ?h4_19⟩) hHeld ?r4_19
                case h4_19 => (intro w hSw; (try dsimp only at hSw); go_simp; try with_reducible rfl)
                try simp only [Act.put, List.setIfInBounds_toArray, List.set_cons_zero, List.set_cons_succ]
                refine wpAnyH_take (i := 20) (oi := { dst := some 35, op := Op.slice 22 (Operand.tmp 33) none (some (Operand.tmp 34)) none, type := 22, pos := "words.go:95", after := #[{ on := 18, ground := Ground.data }, { on := 19, ground := Ground.data }, { on := 17, ground := Ground.guard }], guard := some (17, false) }) (v := ?v4_20) (by kernel_rfl) (by kernel_rfl) (by kernel_rfl) (by kernel_rfl) (fun _ _ _ h => h) (Or.inl ⟨by kernel_rfl, ?h4_20⟩) hHeld ?r4_20
                case h4_20 => (intro w hSw; (try dsimp only at hSw); go_simp; try with_reducible rfl)
                try simp only [Act.put, List.setIfInBounds_toArray, List.set_cons_zero, List.set_cons_succ]
                refine wpAnyH_take (i := 21) (oi := { dst := some 36, op := Op.makeFunc (Fn.func 49) #[] #[Operand.tmp 4], type := 52, pos := "words.go:95", after := #[{ on := 17, ground := Ground.guard }], guard := some (17, false) }) (v := ?v4_21) (by kernel_rfl) (by kernel_rfl) (by kernel_rfl) (by kernel_rfl) (fun _ _ _ h => h) (Or.inl ⟨by kernel_rfl, ?h4_21⟩) hHeld ?r4_21
                case h4_21 => (intro w hSw; (try dsimp only at hSw); go_simp; try with_reducible rfl)
                try simp only [Act.put, List.setIfInBounds_toArray, List.set_cons_zero, List.set_cons_succ]
                refine wpAnyH_ready (rs := [22]) (by kernel_rfl) (by simp) ?_
                refine AllReadyH.cons (i := 22) (o := { dst := some 37, op := Op.call { callee := Callee.value (Operand.func 42), args := #[Operand.tmp 35, Operand.tmp 36], argTypes := #[22, 52] }, type := 4, pos := "words.go:95", after := #[{ on := 20, ground := Ground.data }, { on := 21, ground := Ground.data }, { on := 17, ground := Ground.chain }, { on := 17, ground := Ground.guard }], guard := some (17, false) }) rfl (fun K hK => ?_) AllReadyH.nil
                go_simp
                refine (contains_take l (ex, ec, esy) _ _ c _ w _ hl hlt (HR.out) hHeld.1 hHeld.2.1 hHeld.2.2.1 hHeld.2.2.2.1 hHeld.2.2.2.2.1).mono ?_
                rintro e' w3 ⟨rfl, hb3⟩
                rw [HK.out]
                go_wp2_with fail
                refine hK.out _ _ (by exact keep6 (by assumption) (by assumption)) (fun hHeld => ?_)
                clear hK K
                try simp only [Act.put, List.setIfInBounds_toArray, List.set_cons_zero, List.set_cons_succ]
                refine wpAnyH_take (i := 23) (oi := { dst := some 38, op := Op.pick (Operand.tmp 32) (Operand.const (Value.bool true)) (Operand.tmp 37), type := 4, pos := "words.go:95", after := #[{ on := 17, ground := Ground.data }, { on := 22, ground := Ground.data }], guard := none }) (v := ?v4_23) (by kernel_rfl) (by kernel_rfl) (by kernel_rfl) (by kernel_rfl) (fun _ _ _ h => h) (Or.inl ⟨by kernel_rfl, ?h4_23⟩) hHeld ?r4_23
                case h4_23 => (intro w hSw; (try dsimp only at hSw); go_simp; try with_reducible rfl)
                try simp only [Act.put, List.setIfInBounds_toArray, List.set_cons_zero, List.set_cons_succ]
                refine wpAnyH_done (by kernel_rfl) ?_ _
                all_goals clear hwj
                all_goals go_wp2_with fail
                go_ret
                exact ⟨ret_bool (valid_bad hlt (by rw [okAt_eq hlt HE.out, okE_eq HRT.out (.inr (by rw [HJ.out]; exact hcm)), HK.out]; rfl)).symm, hHeld.2.2.2.2.1⟩
            · skip
              go_wp2_with fail
              obtain ⟨W1, hW1⟩ : ∃ W1 : World, W1 = wr.alloc (.cells #[str ex, byteV ec, str esy] 24) := ⟨_, rfl⟩
              have hbk : Blk W1 wr.heap.size 24 #[str ex, byteV ec, str esy] := by rw [hW1]; exact Blk.new _ _ _
              have hS := (⟨hbk.cell 0, hbk.cell 1, hbk.cell 2, hbk.lt, hW1 ▸ hb.alloc hb.size _⟩ : W1.cell? ⟨wr.heap.size, 0, none⟩ = some (str ex) ∧ W1.cell? ⟨wr.heap.size, 1, none⟩ = some (byteV ec) ∧ W1.cell? ⟨wr.heap.size, 2, none⟩ = some (str esy) ∧ wr.heap.size < W1.heap.size ∧ Below w.heap.size w W1)
              have hX : Below wr.heap.size wr W1 := hW1 ▸ (Below.refl _ _).alloc (Nat.le_refl _) _
              rw [← hW1]
              clear hW1 hbk
              have HW0 : ∀ {o : Nat} {v : Value}, wr.cell? ⟨b, o, none⟩ = some v → W1.cell? ⟨b, o, none⟩ = some v := fun h => (hX.cell (p := ⟨b, _, none⟩) (Nat.lt_of_lt_of_le hB' hb.size)).trans h
              have hS6 : S6 w W1 wr.heap.size (ex, ec, esy) b (off + j * 3) (qx, qc, qy) := ⟨hS.1, hS.2.1, hS.2.2.1, hS.2.2.2.1, hS.2.2.2.2, HW0 q0, HW0 q1, HW0 q2, Nat.lt_of_lt_of_le hB' (Nat.le_trans hb.size (Nat.le_of_lt hS.2.2.2.1))⟩
              have hj0 : (0 : Int) ≤ (j : Int) := by omega
              have hj1 : (j : Int) < (l.length : Int) := by omega
              have hs0 : (0 : Int) ≤ (j : Int) + 1 := by omega
              have hs1 : (j : Int) + 1 ≤ (c : Int) := by omega
              have hwj : IntKind.i64.wrap (j : Int) = j := IntWalk.i64_in _ (by omega)
              have hcd : decide (0 ≤ cmpL (qx, qc, qy) (ex, ec, esy)) = true := by simp; omega
              refine wp_region_held_drew (S := fun W => S6 w W wr.heap.size (ex, ec, esy) b (off + j * 3) (qx, qc, qy)) (by kernel_rfl) (by exact start6 hS6) (fun hHeld => ?_)
              refine wpAnyH_take (i := 0) (oi := { dst := some 15, op := Op.load 24 (Operand.tmp 4), type := 24, pos := "words.go:95", after := #[], guard := none }) (v := ?v5_0) (by kernel_rfl) (by kernel_rfl) (by kernel_rfl) (by kernel_rfl) (fun _ _ _ h => h) (Or.inl ⟨by kernel_rfl, ?h5_0⟩) hHeld ?r5_0
              case h5_0 => (intro w hSw; (try dsimp only at hSw); go_simp; try with_reducible rfl)
              try simp only [Act.put, List.setIfInBounds_toArray, List.set_cons_zero, List.set_cons_succ]
              refine wpAnyH_ready (rs := [1]) (by kernel_rfl) (by simp) ?_
              refine AllReadyH.cons (i := 1) (o := { dst := some 16, op := Op.call { callee := Callee.value (Operand.func 24), args := #[Operand.tmp 15], argTypes := #[24] }, type := 4, pos := "words.go:95", after := #[{ on := 0, ground := Ground.data }], guard := none }) rfl (fun K hK => ?_) AllReadyH.nil
              go_simp
              refine (right_any _ _ _ _ hxl).mono ?_
              rintro e' w1 ⟨rfl, hb1⟩
              rw [HRT.out]
              go_wp2_with fail
              refine hK.out _ _ (by exact keep6 (by assumption) (by assumption)) (fun hHeld => ?_)
              clear hK K
              try simp only [Act.put, List.setIfInBounds_toArray, List.set_cons_zero, List.set_cons_succ]
              refine wpAnyH_take (i := 2) (oi := { dst := some 17, op := Op.unOp UnOp.not 4 (Operand.tmp 16), type := 4, pos := "words.go:95", after := #[{ on := 1, ground := Ground.data }], guard := none }) (v := ?v5_2) (by kernel_rfl) (by kernel_rfl) (by kernel_rfl) (by kernel_rfl) (fun _ _ _ h => h) (Or.inl ⟨by kernel_rfl, ?h5_2⟩) hHeld ?r5_2
              case h5_2 => (intro w hSw; (try dsimp only at hSw); go_simp; try with_reducible rfl)
              try simp only [Act.put, List.setIfInBounds_toArray, List.set_cons_zero, List.set_cons_succ]
              refine wpAnyH_take (i := 3) (oi := { dst := some 18, op := Op.move (Operand.tmp 17), type := 4, pos := "words.go:95", after := #[{ on := 2, ground := Ground.data }, { on := 1, ground := Ground.chain }], guard := none }) (v := ?v5_3) (by kernel_rfl) (by kernel_rfl) (by kernel_rfl) (by kernel_rfl) (fun _ _ _ h => h) (Or.inl ⟨by kernel_rfl, ?h5_3⟩) hHeld ?r5_3
              case h5_3 => (intro w hSw; (try dsimp only at hSw); go_simp; try with_reducible rfl)
              try simp only [Act.put, List.setIfInBounds_toArray, List.set_cons_zero, List.set_cons_succ]
              refine wpAnyH_take (i := 4) (oi := { dst := some 19, op := Op.move (Operand.tmp 3), type := 3, pos := "words.go:95", after := #[{ on := 3, ground := Ground.guard }], guard := some (3, false) }) (v := ?v5_4) (by kernel_rfl) (by kernel_rfl) (by kernel_rfl) (by kernel_rfl) (fun _ _ _ h => h) (Or.inl ⟨by kernel_rfl, ?h5_4⟩) hHeld ?r5_4
              case h5_4 => (intro w hSw; (try dsimp only at hSw); go_simp; try with_reducible rfl)
              try simp only [Act.put, List.setIfInBounds_toArray, List.set_cons_zero, List.set_cons_succ]
              refine wpAnyH_take (i := 5) (oi := { dst := some 20, op := Op.binOp BinOp.gtr 3 (Operand.tmp 19) (Operand.const (Value.int IntKind.i64 0)) 3, type := 4, pos := "words.go:95", after := #[{ on := 4, ground := Ground.data }, { on := 3, ground := Ground.guard }], guard := some (3, false) }) (v := ?v5_5) (by kernel_rfl) (by kernel_rfl) (by kernel_rfl) (by kernel_rfl) (fun _ _ _ h => h) (Or.inl ⟨by kernel_rfl, ?h5_5⟩) hHeld ?r5_5
              case h5_5 => (intro w hSw; (try dsimp only at hSw); go_simp; try with_reducible rfl)
              try simp only [Act.put, List.setIfInBounds_toArray, List.set_cons_zero, List.set_cons_succ]
              refine wpAnyH_take (i := 6) (oi := { dst := some 21, op := Op.move (Operand.tmp 20), type := 4, pos := "words.go:95", after := #[{ on := 5, ground := Ground.data }, { on := 3, ground := Ground.chain }, { on := 3, ground := Ground.guard }], guard := some (3, false) }) (v := ?v5_6) (by kernel_rfl) (by kernel_rfl) (by kernel_rfl) (by kernel_rfl) (fun _ _ _ h => h) (Or.inl ⟨by kernel_rfl, ?h5_6⟩) hHeld ?r5_6
              case h5_6 => (intro w hSw; (try dsimp only at hSw); go_simp; try with_reducible rfl)
              try simp only [Act.put, List.setIfInBounds_toArray, List.set_cons_zero, List.set_cons_succ]
              refine wpAnyH_take (i := 7) (oi := { dst := some 22, op := Op.move (Operand.tmp 0), type := 22, pos := "words.go:95", after := #[{ on := 6, ground := Ground.guard }], guard := some (6, true) }) (v := ?v5_7) (by kernel_rfl) (by kernel_rfl) (by kernel_rfl) (by kernel_rfl) (fun _ _ _ h => h) (Or.inl ⟨by kernel_rfl, ?h5_7⟩) hHeld ?r5_7
              case h5_7 => (intro w hSw; (try dsimp only at hSw); go_simp; try with_reducible rfl)
              try simp only [Act.put, List.setIfInBounds_toArray, List.set_cons_zero, List.set_cons_succ]
              refine wpAnyH_take (i := 8) (oi := { dst := some 23, op := Op.move (Operand.tmp 3), type := 3, pos := "words.go:95", after := #[{ on := 6, ground := Ground.guard }], guard := some (6, true) }) (v := ?v5_8) (by kernel_rfl) (by kernel_rfl) (by kernel_rfl) (by kernel_rfl) (fun _ _ _ h => h) (Or.inl ⟨by kernel_rfl, ?h5_8⟩) hHeld ?r5_8
              case h5_8 => (intro w hSw; (try dsimp only at hSw); go_simp; try with_reducible rfl)
              try simp only [Act.put, List.setIfInBounds_toArray, List.set_cons_zero, List.set_cons_succ]
              refine wpAnyH_take (i := 9) (oi := { dst := some 24, op := Op.binOp BinOp.sub 3 (Operand.tmp 23) (Operand.const (Value.int IntKind.i64 1)) 3, type := 3, pos := "words.go:95", after := #[{ on := 8, ground := Ground.data }, { on := 6, ground := Ground.guard }], guard := some (6, true) }) (v := ?v5_9) (by kernel_rfl) (by kernel_rfl) (by kernel_rfl) (by kernel_rfl) (fun _ _ _ h => h) (Or.inl ⟨by kernel_rfl, ?h5_9⟩) hHeld ?r5_9
              case h5_9 => (intro w hSw; (try dsimp only at hSw); go_simp; try with_reducible rfl)
              try simp only [Act.put, List.setIfInBounds_toArray, List.set_cons_zero, List.set_cons_succ]
              refine wpAnyH_take (i := 10) (oi := { dst := some 25, op := Op.indexAddr 22 (Operand.tmp 22) (Operand.tmp 24), type := 0, pos := "words.go:95", after := #[{ on := 7, ground := Ground.data }, { on := 9, ground := Ground.data }, { on := 6, ground := Ground.guard }], guard := some (6, true) }) (v := ?v5_10) (by kernel_rfl) (by kernel_rfl) (by kernel_rfl) (by kernel_rfl) (fun _ _ _ h => h) (Or.inl ⟨by kernel_rfl, ?h5_10⟩) hHeld ?r5_10
              case h5_10 => (intro w hSw; (try dsimp only at hSw); go_simp; try with_reducible rfl)
              try simp only [Act.put, List.setIfInBounds_toArray, List.set_cons_zero, List.set_cons_succ]
              refine wpAnyH_take (i := 11) (oi := { dst := some 26, op := Op.load 24 (Operand.tmp 25), type := 24, pos := "words.go:95", after := #[{ on := 10, ground := Ground.data }, { on := 6, ground := Ground.guard }], guard := some (6, true) }) (v := ?v5_11) (by kernel_rfl) (by kernel_rfl) (by kernel_rfl) (by kernel_rfl) (fun _ _ _ h => h) (Or.inl ⟨by kernel_rfl, ?h5_11⟩) hHeld ?r5_11
              case h5_11 => (intro w hSw; (try dsimp only at hSw); go_simp; try with_reducible rfl)
              try simp only [Act.put, List.setIfInBounds_toArray, List.set_cons_zero, List.set_cons_succ]
              refine wpAnyH_take (i := 12) (oi := { dst := some 27, op := Op.load 24 (Operand.tmp 4), type := 24, pos := "words.go:95", after := #[{ on := 6, ground := Ground.guard }], guard := some (6, true) }) (v := ?v5_12) (by kernel_rfl) (by kernel_rfl) (by kernel_rfl) (by kernel_rfl) (fun _ _ _ h => h) (Or.inl ⟨by kernel_rfl, ?h5_12⟩) hHeld ?r5_12
              case h5_12 => (intro w hSw; (try dsimp only at hSw); go_simp; try with_reducible rfl)
              try simp only [Act.put, List.setIfInBounds_toArray, List.set_cons_zero, List.set_cons_succ]
              refine wpAnyH_ready (rs := [13]) (by kernel_rfl) (by simp) ?_
              refine AllReadyH.cons (i := 13) (o := { dst := some 28, op := Op.call { callee := Callee.value (Operand.func 41), args := #[Operand.tmp 26, Operand.tmp 27], argTypes := #[24, 24] }, type := 3, pos := "words.go:95", after := #[{ on := 11, ground := Ground.data }, { on := 12, ground := Ground.data }, { on := 6, ground := Ground.chain }, { on := 6, ground := Ground.guard }], guard := some (6, true) }) rfl (fun K hK => ?_) AllReadyH.nil
              go_simp
              refine (compare_any (qx, qc, qy) (ex, ec, esy) _).mono ?_
              rintro e' w2 ⟨rfl, hb2⟩
              go_wp2_with fail
              refine hK.out _ _ (by exact keep6 (by assumption) (by assumption)) (fun hHeld => ?_)
              clear hK K
              try simp only [Act.put, List.setIfInBounds_toArray, List.set_cons_zero, List.set_cons_succ]
              refine wpAnyH_take (i := 14) (oi := { dst := some 29, op := Op.binOp BinOp.geq 3 (Operand.tmp 28) (Operand.const (Value.int IntKind.i64 0)) 3, type := 4, pos := "words.go:95", after := #[{ on := 13, ground := Ground.data }, { on := 6, ground := Ground.guard }], guard := some (6, true) }) (v := ?v5_14) (by kernel_rfl) (by kernel_rfl) (by kernel_rfl) (by kernel_rfl) (fun _ _ _ h => h) (Or.inl ⟨by kernel_rfl, ?h5_14⟩) hHeld ?r5_14
              case h5_14 => (intro w hSw; (try dsimp only at hSw); go_simp; try with_reducible rfl)
              try simp only [Act.put, List.setIfInBounds_toArray, List.set_cons_zero, List.set_cons_succ]
              refine wpAnyH_take (i := 15) (oi := { dst := some 30, op := Op.pick (Operand.tmp 21) (Operand.tmp 29) (Operand.const (Value.bool false)), type := 4, pos := "words.go:95", after := #[{ on := 6, ground := Ground.data }, { on := 14, ground := Ground.data }, { on := 3, ground := Ground.guard }], guard := some (3, false) }) (v := ?v5_15) (by kernel_rfl) (by kernel_rfl) (by kernel_rfl) (by kernel_rfl) (fun _ _ _ h => h) (Or.inl ⟨by kernel_rfl, ?h5_15⟩) hHeld ?r5_15
              case h5_15 => (intro w hSw; (try dsimp only at hSw); go_simp; try with_reducible rfl)
              try simp only [Act.put, List.setIfInBounds_toArray, List.set_cons_zero, List.set_cons_succ]
              refine wpAnyH_take (i := 16) (oi := { dst := some 31, op := Op.pick (Operand.tmp 18) (Operand.const (Value.bool true)) (Operand.tmp 30), type := 4, pos := "words.go:95", after := #[{ on := 3, ground := Ground.data }, { on := 15, ground := Ground.data }], guard := none }) (v := ?v5_16) (by kernel_rfl) (by kernel_rfl) (by kernel_rfl) (by kernel_rfl) (fun _ _ _ h => h) (Or.inl ⟨by kernel_rfl, ?h5_16⟩) hHeld ?r5_16
              case h5_16 => (intro w hSw; (try dsimp only at hSw); go_simp; try with_reducible rfl)
              try simp only [Act.put, List.setIfInBounds_toArray, List.set_cons_zero, List.set_cons_succ]
              refine wpAnyH_take (i := 17) (oi := { dst := some 32, op := Op.move (Operand.tmp 31), type := 4, pos := "words.go:95", after := #[{ on := 16, ground := Ground.data }, { on := 13, ground := Ground.chain }], guard := none }) (v := ?v5_17) (by kernel_rfl) (by kernel_rfl) (by kernel_rfl) (by kernel_rfl) (fun _ _ _ h => h) (Or.inl ⟨by kernel_rfl, ?h5_17⟩) hHeld ?r5_17
              case h5_17 => (intro w hSw; (try dsimp only at hSw); go_simp; try with_reducible rfl)
              try simp only [Act.put, List.setIfInBounds_toArray, List.set_cons_zero, List.set_cons_succ]
              refine wpAnyH_take (i := 18) (oi := { dst := some 33, op := Op.move (Operand.tmp 0), type := 22, pos := "words.go:95", after := #[{ on := 17, ground := Ground.guard }], guard := some (17, false) }) (v := undef) (by kernel_rfl) (by kernel_rfl) (by kernel_rfl) (by kernel_rfl) (fun _ _ _ h => h) (Or.inr ⟨by kernel_rfl, rfl⟩) hHeld ?_
              try simp only [Act.put, List.setIfInBounds_toArray, List.set_cons_zero, List.set_cons_succ]
              refine wpAnyH_take (i := 19) (oi := { dst := some 34, op := Op.move (Operand.tmp 3), type := 3, pos := "words.go:95", after := #[{ on := 17, ground := Ground.guard }], guard := some (17, false) }) (v := undef) (by kernel_rfl) (by kernel_rfl) (by kernel_rfl) (by kernel_rfl) (fun _ _ _ h => h) (Or.inr ⟨by kernel_rfl, rfl⟩) hHeld ?_
              try simp only [Act.put, List.setIfInBounds_toArray, List.set_cons_zero, List.set_cons_succ]
              refine wpAnyH_take (i := 20) (oi := { dst := some 35, op := Op.slice 22 (Operand.tmp 33) none (some (Operand.tmp 34)) none, type := 22, pos := "words.go:95", after := #[{ on := 18, ground := Ground.data }, { on := 19, ground := Ground.data }, { on := 17, ground := Ground.guard }], guard := some (17, false) }) (v := undef) (by kernel_rfl) (by kernel_rfl) (by kernel_rfl) (by kernel_rfl) (fun _ _ _ h => h) (Or.inr ⟨by kernel_rfl, rfl⟩) hHeld ?_
              try simp only [Act.put, List.setIfInBounds_toArray, List.set_cons_zero, List.set_cons_succ]
              refine wpAnyH_take (i := 21) (oi := { dst := some 36, op := Op.makeFunc (Fn.func 49) #[] #[Operand.tmp 4], type := 52, pos := "words.go:95", after := #[{ on := 17, ground := Ground.guard }], guard := some (17, false) }) (v := undef) (by kernel_rfl) (by kernel_rfl) (by kernel_rfl) (by kernel_rfl) (fun _ _ _ h => h) (Or.inr ⟨by kernel_rfl, rfl⟩) hHeld ?_
              try simp only [Act.put, List.setIfInBounds_toArray, List.set_cons_zero, List.set_cons_succ]
              refine wpAnyH_take (i := 22) (oi := { dst := some 37, op := Op.call { callee := Callee.value (Operand.func 42), args := #[Operand.tmp 35, Operand.tmp 36], argTypes := #[22, 52] }, type := 4, pos := "words.go:95", after := #[{ on := 20, ground := Ground.data }, { on := 21, ground := Ground.data }, { on := 17, ground := Ground.chain }, { on := 17, ground := Ground.guard }], guard := some (17, false) }) (v := undef) (by kernel_rfl) (by kernel_rfl) (by kernel_rfl) (by kernel_rfl) (fun _ _ _ h => h) (Or.inr ⟨by kernel_rfl, rfl⟩) hHeld ?_
              try simp only [Act.put, List.setIfInBounds_toArray, List.set_cons_zero, List.set_cons_succ]
              refine wpAnyH_take (i := 23) (oi := { dst := some 38, op := Op.pick (Operand.tmp 32) (Operand.const (Value.bool true)) (Operand.tmp 37), type := 4, pos := "words.go:95", after := #[{ on := 17, ground := Ground.data }, { on := 22, ground := Ground.data }], guard := none }) (v := ?v5_23) (by kernel_rfl) (by kernel_rfl) (by kernel_rfl) (by kernel_rfl) (fun _ _ _ h => h) (Or.inl ⟨by kernel_rfl, ?h5_23⟩) hHeld ?r5_23
              case h5_23 => (intro w hSw; (try dsimp only at hSw); go_simp; try with_reducible rfl)
              try simp only [Act.put, List.setIfInBounds_toArray, List.set_cons_zero, List.set_cons_succ]
              refine wpAnyH_done (by kernel_rfl) ?_ _
              all_goals clear hwj
              all_goals go_wp2_with fail
              go_ret
              exact ⟨ret_bool (valid_bad hlt (by rw [okAt_eq hlt HE.out]; unfold okE; rw [HRT.out, HJ.out, decide_eq_false (show ¬ cmpL (qx, qc, qy) (ex, ec, esy) < 0 by omega)]; simp)).symm, hHeld.2.2.2.2.1⟩
      · go_wp2_with fail
        go_ret
        exact ⟨ret_bool (by
          have : anyIdx (fun i => !okAt l i) l.length = false := by
            rw [Bool.eq_false_iff, ne_eq, anyIdx_iff]
            rintro ⟨i, hi, hp⟩
            have := hno i (by omega)
            simp only at this hp
            rw [this] at hp
            cases hp
          simp [validL, this, hl]), hb⟩
end Go.Proofs.YtbbgieopcmjoeaaGreatDoor
