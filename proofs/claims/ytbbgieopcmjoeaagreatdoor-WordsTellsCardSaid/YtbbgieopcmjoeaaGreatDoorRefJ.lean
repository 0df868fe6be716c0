/- package lyceumref33: Add. -/
import Derived.Test.YtbbgieopcmjoeaaGreatDoorRefI
namespace Go.Proofs.YtbbgieopcmjoeaaGreatDoor
open Go.RowKit
theorem box_cellsT {W : World} {b : Nat} {t : TypeId} {x : List UInt8} {c : UInt8} {y : List UInt8} (h : Blk W b t #[str x, byteV c, str y]) : W.cell? ⟨b, 0, none⟩ = some (str x) ∧ W.cell? ⟨b, 1, none⟩ = some (byteV c) ∧ W.cell? ⟨b, 2, none⟩ = some (str y) := ⟨h.cell 0, h.cell 1, h.cell 2⟩
/-- A lexicon that reads, and an error. -/
def RdPost (w : World) (ls : List Ent) (er : Int) (e : Ending) (w' : World) : Prop := ∃ A c, e = .returned (.tuple #[.slice A ls.length c, .int .i64 er]) ∧ ls.length ≤ c ∧ Reads w' w'.heap.size 3 A ls.length (flat ls) ∧ Below w.heap.size w w'
theorem RdPost.none_ {w w' : World} (er : Int) (h : Below w.heap.size w w') : RdPost w [] er (.returned (.tuple #[.slice none 0 0, .int .i64 er])) w' := ⟨none, 0, rfl, Nat.le_refl _, Reads.none_, h⟩
theorem radd_bad {l : List Ent} {e : Ent} (h : (validL l && rightL e) = false) : raddR l e = ([], 2) := by unfold raddR; rw [h]; rfl
theorem radd_good {l : List Ent} {e : Ent} (hv : validL l = true) (hr : rightL e = true) : raddR l e = (if l.any (twE e) = true then ([], 330) else if (l.any fun o => clashL o e) = true then ([], 331) else if l.length = 100 then ([], 5) else (l.take (atL l e) ++ e :: l.drop (atL l e), 0)) := by
  unfold raddR; rw [hv, hr]; rfl
theorem tw_hit {l : List Ent} {e : Ent} {k : Nat} (hk : k < l.length) (h : twE e l[k] = true) : l.any (twE e) = true := List.any_eq_true.2 ⟨_, List.getElem_mem hk, h⟩
theorem tw_none {l : List Ent} {e : Ent} (h : NoneTo (fun i => twE e (l.getD i dE)) l.length) : l.any (twE e) = false := by
  rw [List.any_eq_false]
  intro o ho
  obtain ⟨i, hi, rfl⟩ := List.getElem_of_mem ho
  have := h i hi
  have e1 : l.getD i dE = l[i] := by simp [hi]
  simp only [e1] at this
  simp [this]
theorem atL_le (l : List Ent) (e : Ent) : atL l e ≤ l.length := firstIdx_le _ _
theorem tw_parts {e o : Ent} : twE e o = ((o.1 == e.1) && (o.2.1 == e.2.1)) := rfl
theorem rowE_put {W : World} {B e n : Nat} {v : Value} {fs : List Ent} {f : Ent} (h : W.ownsRow B e 3 v n (flat fs ++ entCells f)) (hn : n = (fs ++ [f]).length) : W.ownsRow B e 3 v (fs ++ [f]).length (flat (fs ++ [f])) := by
  rw [← hn, flat_snocE]; exact h
theorem three_new0 (W : World) (n : Nat) (hn : W.heap.size = n) (x y z : Value) (t : TypeId) : ∀ j u, [x, y, z][j]? = some u → (W.alloc (.cells #[x, y, z] t)).cell? ⟨n, j, none⟩ = some u := by
  intro j u hj
  have := three_new W n hn x y z t j u hj
  rwa [addr_add, Nat.zero_add] at this
/-- What the reference's Add knows inside a region: the entry's box, the entry at hand, the row so far. -/
abbrev S8 (w W : World) (B : Nat) (e : Ent) (b o : Nat) (q : Ent) (t : TypeId) (v : Value) (xs : List Ent) : Prop := S6 w W B e b o q ∧ W.ownsRow w.heap.size t 3 v xs.length (flat xs)
theorem keep8 {w W W' : World} {B b o : Nat} {e q : Ent} {t : TypeId} {v : Value} {xs : List Ent} (h : S8 w W B e b o q t v xs) (hb : Below W.heap.size W W') : S8 w W' B e b o q t v xs := ⟨keep6 h.1 hb, row_later h.2 hb⟩
theorem start8 {w W : World} {B b o : Nat} {e q : Ent} {t : TypeId} {v : Value} {xs : List Ent} (h : S8 w W B e b o q t v xs) : S8 w W.drew B e b o q t v xs := ⟨start6 h.1, h.2⟩
set_option maxRecDepth 100000 in
set_option maxHeartbeats 3200000 in
theorem radd_2 (l : List Ent) (e : Ent) (A : Option Addr) (c : Nat) (w : World) (hl : l.length ≤ 1048576) (hw : ∀ e ∈ l, e.1.length ≤ 1048576 ∧ e.2.2.length ≤ 1048576) (hx : e.1.length ≤ 1048576 ∧ e.2.2.length ≤ 1048576) (hr : Reads w w.heap.size 3 A l.length (flat l)) (hbad : (validL l && rightL e) = false) :
    Calls Tryz.prog 20 #[.slice A l.length c, entV e] w (RdPost w (raddR l e).1 (raddR l e).2) := by
  rw [radd_bad hbad]
  have HR := Lib.hid hr; clear hr
  have HW := Lib.hid hw; clear hw
  obtain ⟨ex, ec, esy⟩ := e
  have hbox : Hid (∀ W : World, W = w.alloc (.cells #[str ex, byteV ec, str esy] 46) → Blk W w.heap.size 46 #[str ex, byteV ec, str esy] ∧ Below w.heap.size w W) := fun W h => by subst h; exact ⟨Blk.new _ _ _, (Below.refl _ _).alloc (Nat.le_refl _) _⟩
  cases hv : validL l
  · have HV := Lib.hid hv; clear hv hbad hx
    go_enter Tryz.func20, Tryz.ntmps20
    go_wp2_with fail
    obtain ⟨W1, hW1⟩ : ∃ W1 : World, W1 = w.alloc (.cells #[str ex, byteV ec, str esy] 46) := ⟨_, rfl⟩
    obtain ⟨hbk, hb1⟩ := hbox.out W1 hW1
    rw [← hW1]
    clear hW1
    go_at_call 23; refine (rvalid_any l A c _ hl HW.out ((HR.out).later hb1)).mono ?_; rintro e' w2 ⟨rfl, hb2⟩; rw [HV.out]
    go_wp2_with fail
    go_ret2
    exact RdPost.none_ 2 (below_then hb1 hb2)
  · have hrt : rightL (ex, ec, esy) = false := by rw [hv] at hbad; simpa using hbad
    have HV := Lib.hid hv; have HT := Lib.hid hrt; clear hv hbad hrt
    have hx1 : ex.length ≤ 140737488355328 := by have := hx.1; simp only at this; omega
    have hx2 : esy.length ≤ 140737488355328 := by have := hx.2; simp only at this; omega
    clear hx
    go_enter Tryz.func20, Tryz.ntmps20
    go_wp2_with fail
    obtain ⟨W1, hW1⟩ : ∃ W1 : World, W1 = w.alloc (.cells #[str ex, byteV ec, str esy] 46) := ⟨_, rfl⟩
    obtain ⟨hbk, hb1⟩ := hbox.out W1 hW1
    rw [← hW1]
    clear hW1
    go_at_call 23; refine (rvalid_any l A c _ hl HW.out ((HR.out).later hb1)).mono ?_; rintro e' w2 ⟨rfl, hb2⟩; rw [HV.out]
    obtain ⟨k0, k1, k2⟩ := box_cellsT (hbk.later hb2)
    go_wp2_with fail
    go_at_call 25; refine (rright_any ex ec esy _ hx1 hx2).mono ?_; rintro e' w3 ⟨rfl, hb3⟩; rw [HT.out]
    go_wp2_with fail
    go_ret2
    exact RdPost.none_ 2 (below_then hb1 (below_then hb2 hb3))
set_option maxRecDepth 100000 in
set_option maxHeartbeats 6400000 in
theorem radd_1 (l : List Ent) (e : Ent) (A : Option Addr) (c : Nat) (w : World) (hl : l.length ≤ 100) (hw : ∀ e ∈ l, e.1.length ≤ 1048576 ∧ e.2.2.length ≤ 1048576) (hx : e.1.length ≤ 1048576 ∧ e.2.2.length ≤ 1048576) (hr : Reads w w.heap.size 3 A l.length (flat l)) (hv : validL l = true) (hrt : rightL e = true) :
    Calls Tryz.prog 20 #[.slice A l.length c, entV e] w (RdPost w (raddR l e).1 (raddR l e).2) := by
  have HXX := Lib.hid (radd_good hv hrt)
  have HR := Lib.hid hr; clear hr
  have HW := Lib.hid hw; clear hw
  obtain ⟨ex, ec, esy⟩ := e
  have hbox : Hid (∀ W : World, W = w.alloc (.cells #[str ex, byteV ec, str esy] 46) → Blk W w.heap.size 46 #[str ex, byteV ec, str esy] ∧ Below w.heap.size w W) := fun W h => by subst h; exact ⟨Blk.new _ _ _, (Below.refl _ _).alloc (Nat.le_refl _) _⟩
  have HV := Lib.hid hv; have HT := Lib.hid hrt; clear hv hrt
  have hx1 : ex.length ≤ 140737488355328 := by have := hx.1; simp only at this; omega
  have hx2 : esy.length ≤ 140737488355328 := by have := hx.2; simp only at this; omega
  clear hx
  obtain ⟨i0, hi, hz0, hz1, hz2⟩ := info_parts infoEntR
  have HAT := Lib.hid (atL_le l (ex, ec, esy))
  go_enter Tryz.func20, Tryz.ntmps20
  go_wp2_with fail
  obtain ⟨W1, hW1⟩ : ∃ W1 : World, W1 = w.alloc (.cells #[str ex, byteV ec, str esy] 46) := ⟨_, rfl⟩
  obtain ⟨hbk, hb1⟩ := hbox.out W1 hW1
  rw [← hW1]
  clear hW1
  go_at_call 23; refine (rvalid_any l A c _ (by omega) HW.out ((HR.out).later hb1)).mono ?_; rintro e' w2 ⟨rfl, hb2⟩; rw [HV.out]
  replace hbk := hbk.later hb2
  replace hb1 := below_then hb1 hb2; clear hb2
  obtain ⟨k0, k1, k2⟩ := box_cellsT hbk
  go_wp2_with fail
  go_at_call 25; refine (rright_any ex ec esy _ hx1 hx2).mono ?_; rintro e' w3 ⟨rfl, hb3⟩; rw [HT.out]
  replace hbk := hbk.later hb3
  replace hb1 := below_then hb1 hb3; clear hb3 k0 k1 k2
  go_wp2_with fail
  go_loopw [6, 7, 8] (fun v p i wr => ∃ k : Nat, k ≤ l.length ∧ i = .int .i64 k ∧ p = .bool (decide (atL l (ex, ec, esy) < k)) ∧ wr.ownsRow w3.heap.size 46 3 v (putK l (ex, ec, esy) k).length (flat (putK l (ex, ec, esy) k)) ∧ Below w3.heap.size w3 wr ∧ NoneTo (fun i => twE (ex, ec, esy) (l.getD i dE)) k) (fun _ _ i _ => l.length - (intOf i).toNat)
  case atStart => exact ⟨0, Nat.zero_le _, rfl, by simp, by rw [putK_zero]; exact World.ownsRow_nil _ _ _ _, Below.refl _ _, NoneTo.zero _⟩
  case round =>
    obtain ⟨k, hk, rfl, hp, hrow, hb, hno⟩ := hrel
    have hbs := hb.size
    have hws := hb1.size
    have hkz := hbk.lt
    have hpl := putK_len l (ex, ec, esy) k hk
    by_cases hlt : k < l.length
    · obtain ⟨b, off, rfl, hB, h0, h1, h2⟩ := ((HR.out).below (hb1.trans (hb.mono hws))).ent hlt
      obtain ⟨k0, k1, k2⟩ := box_cellsT (hbk.later hb)
      have HTW := Lib.hid (fun (h : twE (ex, ec, esy) l[k] = true) => tw_hit hlt h)
      have HNO := Lib.hid (fun (h : twE (ex, ec, esy) l[k] = false) => hno.succ (show (fun i => twE (ex, ec, esy) (l.getD i dE)) k = false by simp only [List.getD_eq_getElem?_getD, List.getElem?_eq_getElem hlt]; exact h))
      have HHR := Lib.hid (fun h1 (h : twE (ex, ec, esy) l[k] = false) => at_here (e := (ex, ec, esy)) hlt hno h1 h)
      have HSM := Lib.hid (fun h => putK_same (e := (ex, ec, esy)) hlt h)
      have HPA := Lib.hid (fun h => putK_at (e := (ex, ec, esy)) hlt h)
      clear hno
      generalize l[k] = oo at h0 h1 h2 HTW HNO HHR HSM HPA
      obtain ⟨ox, oc, osy⟩ := oo
      have hu := u8_eqq oc ec
      have HROW := Lib.hid hrow; clear hrow
      cases hx : (ox == ex)
      · have HTF : Hid (twE (ex, ec, esy) (ox, oc, osy) = false) := Lib.hid (by rw [tw_parts]; simp only [hx]; rfl)
        rcases Nat.lt_or_ge (atL l (ex, ec, esy)) k with hat | hat
        · rw [decide_eq_true hat] at hp
          subst hp
          have HPK := Lib.hid (HSM.out (by omega))
          have HPT : Hid (decide (atL l (ex, ec, esy) < k + 1) = true) := Lib.hid (decide_eq_true (by omega))
          clear hat
          go_wp2_with fail
          go_quiet (fail)
          go_wp2_with fail
          have hS : ∀ m, S8 w3 (wr.drewN m) w.heap.size (ex, ec, esy) b (off + k * 3) (ox, oc, osy) 46 u6 _ := fun m => ⟨⟨k0, k1, k2, by show w.heap.size < wr.heap.size; omega, below_drewN hb m, h0, h1, h2, by show b < wr.heap.size; omega⟩, HROW.out⟩
          refine wp_region_held_drew (S := fun W => S8 w3 W w.heap.size (ex, ec, esy) b (off + k * 3) (ox, oc, osy) 46 u6 (putK l (ex, ec, esy) k)) (by kernel_rfl) (by exact start8 (hS _)) (fun hHeld => ?_)
          refine wpAnyH_take (i := 0) (oi := { dst := some 41, op := Op.move (Operand.tmp 7), type := 4, pos := "ref.go:150", after := #[], guard := none }) (v := ?v1_0) (by kernel_rfl) (by kernel_rfl) (by kernel_rfl) (by kernel_rfl) (fun _ _ _ h => h) (Or.inl ⟨by kernel_rfl, ?h1_0⟩) hHeld ?r1_0
          case h1_0 => (intro w hSw; (try dsimp only at hSw); go_simp; try with_reducible rfl)
          try simp only [Act.put, List.setIfInBounds_toArray, List.set_cons_zero, List.set_cons_succ]
          refine wpAnyH_take (i := 1) (oi := { dst := some 42, op := Op.unOp UnOp.not 4 (Operand.tmp 41), type := 4, pos := "ref.go:150", after := #[{ on := 0, ground := Ground.data }], guard := none }) (v := ?v1_1) (by kernel_rfl) (by kernel_rfl) (by kernel_rfl) (by kernel_rfl) (fun _ _ _ h => h) (Or.inl ⟨by kernel_rfl, ?h1_1⟩) hHeld ?r1_1
          case h1_1 => (intro w hSw; (try dsimp only at hSw); go_simp; try with_reducible rfl)
          try simp only [Act.put, List.setIfInBounds_toArray, List.set_cons_zero, List.set_cons_succ]
          refine wpAnyH_take (i := 2) (oi := { dst := some 43, op := Op.move (Operand.tmp 42), type := 4, pos := "ref.go:150", after := #[{ on := 1, ground := Ground.data }], guard := none }) (v := ?v1_2) (by kernel_rfl) (by kernel_rfl) (by kernel_rfl) (by kernel_rfl) (fun _ _ _ h => h) (Or.inl ⟨by kernel_rfl, ?h1_2⟩) hHeld ?r1_2
          case h1_2 => (intro w hSw; (try dsimp only at hSw); go_simp; try with_reducible rfl)
          try simp only [Act.put, List.setIfInBounds_toArray, List.set_cons_zero, List.set_cons_succ]
          refine wpAnyH_take (i := 3) (oi := { dst := some 44, op := Op.load 46 (Operand.tmp 3), type := 46, pos := "ref.go:150", after := #[{ on := 2, ground := Ground.guard }], guard := some (2, true) }) (v := undef) (by kernel_rfl) (by kernel_rfl) (by kernel_rfl) (by kernel_rfl) (fun _ _ _ h => h) (Or.inr ⟨by kernel_rfl, rfl⟩) hHeld ?_
          try simp only [Act.put, List.setIfInBounds_toArray, List.set_cons_zero, List.set_cons_succ]
          refine wpAnyH_take (i := 4) (oi := { dst := some 45, op := Op.move (Operand.tmp 0), type := 42, pos := "ref.go:150", after := #[{ on := 2, ground := Ground.guard }], guard := some (2, true) }) (v := undef) (by kernel_rfl) (by kernel_rfl) (by kernel_rfl) (by kernel_rfl) (fun _ _ _ h => h) (Or.inr ⟨by kernel_rfl, rfl⟩) hHeld ?_
          try simp only [Act.put, List.setIfInBounds_toArray, List.set_cons_zero, List.set_cons_succ]
          refine wpAnyH_take (i := 5) (oi := { dst := some 46, op := Op.move (Operand.tmp 8), type := 3, pos := "ref.go:150", after := #[{ on := 2, ground := Ground.guard }], guard := some (2, true) }) (v := undef) (by kernel_rfl) (by kernel_rfl) (by kernel_rfl) (by kernel_rfl) (fun _ _ _ h => h) (Or.inr ⟨by kernel_rfl, rfl⟩) hHeld ?_
          try simp only [Act.put, List.setIfInBounds_toArray, List.set_cons_zero, List.set_cons_succ]
          refine wpAnyH_take (i := 6) (oi := { dst := some 47, op := Op.indexAddr 42 (Operand.tmp 45) (Operand.tmp 46), type := 0, pos := "ref.go:150", after := #[{ on := 4, ground := Ground.data }, { on := 5, ground := Ground.data }, { on := 2, ground := Ground.guard }], guard := some (2, true) }) (v := undef) (by kernel_rfl) (by kernel_rfl) (by kernel_rfl) (by kernel_rfl) (fun _ _ _ h => h) (Or.inr ⟨by kernel_rfl, rfl⟩) hHeld ?_
          try simp only [Act.put, List.setIfInBounds_toArray, List.set_cons_zero, List.set_cons_succ]
          refine wpAnyH_take (i := 7) (oi := { dst := some 48, op := Op.load 46 (Operand.tmp 47), type := 46, pos := "ref.go:150", after := #[{ on := 6, ground := Ground.data }, { on := 2, ground := Ground.guard }], guard := some (2, true) }) (v := undef) (by kernel_rfl) (by kernel_rfl) (by kernel_rfl) (by kernel_rfl) (fun _ _ _ h => h) (Or.inr ⟨by kernel_rfl, rfl⟩) hHeld ?_
          try simp only [Act.put, List.setIfInBounds_toArray, List.set_cons_zero, List.set_cons_succ]
          refine wpAnyH_take (i := 8) (oi := { dst := some 49, op := Op.call { callee := Callee.value (Operand.func 50), args := #[Operand.tmp 44, Operand.tmp 48], argTypes := #[46, 46] }, type := 4, pos := "ref.go:150", after := #[{ on := 3, ground := Ground.data }, { on := 7, ground := Ground.data }, { on := 2, ground := Ground.chain }, { on := 2, ground := Ground.guard }], guard := some (2, true) }) (v := undef) (by kernel_rfl) (by kernel_rfl) (by kernel_rfl) (by kernel_rfl) (fun _ _ _ h => h) (Or.inr ⟨by kernel_rfl, rfl⟩) hHeld ?_
          try simp only [Act.put, List.setIfInBounds_toArray, List.set_cons_zero, List.set_cons_succ]
          refine wpAnyH_take (i := 9) (oi := { dst := some 50, op := Op.pick (Operand.tmp 43) (Operand.tmp 49) (Operand.const (Value.bool false)), type := 4, pos := "ref.go:150", after := #[{ on := 2, ground := Ground.data }, { on := 8, ground := Ground.data }], guard := none }) (v := ?v1_9) (by kernel_rfl) (by kernel_rfl) (by kernel_rfl) (by kernel_rfl) (fun _ _ _ h => h) (Or.inl ⟨by kernel_rfl, ?h1_9⟩) hHeld ?r1_9
          case h1_9 => (intro w hSw; (try dsimp only at hSw); go_simp; try with_reducible rfl)
          try simp only [Act.put, List.setIfInBounds_toArray, List.set_cons_zero, List.set_cons_succ]
          refine wpAnyH_done (by kernel_rfl) ?_ _
          have HB := Lib.hid hHeld.1.2.2.2.2.1
          have HRW := Lib.hid hHeld.2
          obtain ⟨q0, q1, q2⟩ : _ ∧ _ ∧ _ := ⟨hHeld.1.2.2.2.2.2.1, hHeld.1.2.2.2.2.2.2.1, hHeld.1.2.2.2.2.2.2.2.1⟩
          clear hHeld hS
          go_wp2_with (at_builtin; refine wpList_append_own _ rfl _ _ 42 rfl w3.heap.size 46 i0 (.agg #[.string ⟨#[]⟩, .int .u8 0, .string ⟨#[]⟩]) 3 40 Tryz.underlying42 hi hz0 hz1 hz2 rfl (by decide) _ _ _ rfl ((HRW.out).alloc _) ⟨wr.heap.size, 0, none⟩ 1 1 [str ox, byteV oc, str osy] rfl rfl ?a1 ?b1 ?c1 ?d1 ?e1 ?_)
          try (case a1 => first | exact three_new _ _ rfl _ _ _ _ | exact three_new _ _ (by simp) _ _ _ _ | exact three_new0 _ _ rfl _ _ _ _ | exact three_new0 _ _ (by simp) _ _ _ _)
          case b1 => simp [Value.oneCell']
          case c1 => (unfold maxLen; omega)
          case d1 => omega
          case e1 => (have := (HB.out).size; first | omega | (simp; omega))
          intro v5 w5 hown1 hgrow1 _
          have HG1 := Lib.hid (((HB.out).alloc (by have := (HB.out).size; first | omega | (simp; omega)) (.cells #[str ox, byteV oc, str osy] 46)).grown hgrow1 (by have := (HB.out).size; first | omega | (simp; omega)) (own_ge (HRW.out)))
          have HR1 := Lib.hid (rowE_put (f := (ox, oc, osy)) hown1 (by simp))
          clear hgrow1 hown1
          go_wp2_with fail
          go_roundw
          case rel => exact ⟨k + 1, by omega, by go_num, by rw [HPT.out], by rw [HPK.out]; exact HR1.out, HG1.out, HNO.out HTF.out⟩
          case measure => simp [intOf]; omega
        · rw [decide_eq_false (by omega)] at hp
          subst hp
          have HHD := Lib.hid (HHR.out hat HTF.out)
          rcases Nat.eq_or_lt_of_le hat with hat | hat
          · have HCD : Hid (decide (cmpL (ex, ec, esy) (ox, oc, osy) < 0) = true) := Lib.hid (HHD.out.trans (decide_eq_true hat.symm))
            have HPK := Lib.hid (HPA.out hat.symm)
            have HPT : Hid (decide (atL l (ex, ec, esy) < k + 1) = true) := Lib.hid (decide_eq_true (by omega))
            clear hat
            go_wp2_with fail
            go_quiet (fail)
            go_wp2_with fail
            have hS : ∀ m, S8 w3 (wr.drewN m) w.heap.size (ex, ec, esy) b (off + k * 3) (ox, oc, osy) 46 u6 _ := fun m => ⟨⟨k0, k1, k2, by show w.heap.size < wr.heap.size; omega, below_drewN hb m, h0, h1, h2, by show b < wr.heap.size; omega⟩, HROW.out⟩
            refine wp_region_held_drew (S := fun W => S8 w3 W w.heap.size (ex, ec, esy) b (off + k * 3) (ox, oc, osy) 46 u6 (putK l (ex, ec, esy) k)) (by kernel_rfl) (by exact start8 (hS _)) (fun hHeld => ?_)
            refine wpAnyH_take (i := 0) (oi := { dst := some 41, op := Op.move (Operand.tmp 7), type := 4, pos := "ref.go:150", after := #[], guard := none }) (v := ?v2_0) (by kernel_rfl) (by kernel_rfl) (by kernel_rfl) (by kernel_rfl) (fun _ _ _ h => h) (Or.inl ⟨by kernel_rfl, ?h2_0⟩) hHeld ?r2_0
            case h2_0 => (intro w hSw; (try dsimp only at hSw); go_simp; try with_reducible rfl)
            try simp only [Act.put, List.setIfInBounds_toArray, List.set_cons_zero, List.set_cons_succ]
            refine wpAnyH_take (i := 1) (oi := { dst := some 42, op := Op.unOp UnOp.not 4 (Operand.tmp 41), type := 4, pos := "ref.go:150", after := #[{ on := 0, ground := Ground.data }], guard := none }) (v := ?v2_1) (by kernel_rfl) (by kernel_rfl) (by kernel_rfl) (by kernel_rfl) (fun _ _ _ h => h) (Or.inl ⟨by kernel_rfl, ?h2_1⟩) hHeld ?r2_1
            case h2_1 => (intro w hSw; (try dsimp only at hSw); go_simp; try with_reducible rfl)
            try simp only [Act.put, List.setIfInBounds_toArray, List.set_cons_zero, List.set_cons_succ]
            refine wpAnyH_take (i := 2) (oi := { dst := some 43, op := Op.move (Operand.tmp 42), type := 4, pos := "ref.go:150", after := #[{ on := 1, ground := Ground.data }], guard := none }) (v := ?v2_2) (by kernel_rfl) (by kernel_rfl) (by kernel_rfl) (by kernel_rfl) (fun _ _ _ h => h) (Or.inl ⟨by kernel_rfl, ?h2_2⟩) hHeld ?r2_2
            case h2_2 => (intro w hSw; (try dsimp only at hSw); go_simp; try with_reducible rfl)
            try simp only [Act.put, List.setIfInBounds_toArray, List.set_cons_zero, List.set_cons_succ]
            refine wpAnyH_take (i := 3) (oi := { dst := some 44, op := Op.load 46 (Operand.tmp 3), type := 46, pos := "ref.go:150", after := #[{ on := 2, ground := Ground.guard }], guard := some (2, true) }) (v := ?v2_3) (by kernel_rfl) (by kernel_rfl) (by kernel_rfl) (by kernel_rfl) (fun _ _ _ h => h) (Or.inl ⟨by kernel_rfl, ?h2_3⟩) hHeld ?r2_3
            case h2_3 => (intro w hSw; (try dsimp only at hSw); go_simp; try with_reducible rfl)
            try simp only [Act.put, List.setIfInBounds_toArray, List.set_cons_zero, List.set_cons_succ]
            refine wpAnyH_take (i := 4) (oi := { dst := some 45, op := Op.move (Operand.tmp 0), type := 42, pos := "ref.go:150", after := #[{ on := 2, ground := Ground.guard }], guard := some (2, true) }) (v := ?v2_4) (by kernel_rfl) (by kernel_rfl) (by kernel_rfl) (by kernel_rfl) (fun _ _ _ h => h) (Or.inl ⟨by kernel_rfl, ?h2_4⟩) hHeld ?r2_4
            case h2_4 => (intro w hSw; (try dsimp only at hSw); go_simp; try with_reducible rfl)
            try simp only [Act.put, List.setIfInBounds_toArray, List.set_cons_zero, List.set_cons_succ]
            refine wpAnyH_take (i := 5) (oi := { dst := some 46, op := Op.move (Operand.tmp 8), type := 3, pos := "ref.go:150", after := #[{ on := 2, ground := Ground.guard }], guard := some (2, true) }) (v := ?v2_5) (by kernel_rfl) (by kernel_rfl) (by kernel_rfl) (by kernel_rfl) (fun _ _ _ h => h) (Or.inl ⟨by kernel_rfl, ?h2_5⟩) hHeld ?r2_5
            case h2_5 => (intro w hSw; (try dsimp only at hSw); go_simp; try with_reducible rfl)
            try simp only [Act.put, List.setIfInBounds_toArray, List.set_cons_zero, List.set_cons_succ]
            refine wpAnyH_take (i := 6) (oi := { dst := some 47, op := Op.indexAddr 42 (Operand.tmp 45) (Operand.tmp 46), type := 0, pos := "ref.go:150", after := #[{ on := 4, ground := Ground.data }, { on := 5, ground := Ground.data }, { on := 2, ground := Ground.guard }], guard := some (2, true) }) (v := ?v2_6) (by kernel_rfl) (by kernel_rfl) (by kernel_rfl) (by kernel_rfl) (fun _ _ _ h => h) (Or.inl ⟨by kernel_rfl, ?h2_6⟩) hHeld ?r2_6
            case h2_6 => (intro w hSw; (try dsimp only at hSw); go_simp; try with_reducible rfl)
            try simp only [Act.put, List.setIfInBounds_toArray, List.set_cons_zero, List.set_cons_succ]
            refine wpAnyH_take (i := 7) (oi := { dst := some 48, op := Op.load 46 (Operand.tmp 47), type := 46, pos := "ref.go:150", after := #[{ on := 6, ground := Ground.data }, { on := 2, ground := Ground.guard }], guard := some (2, true) }) (v := ?v2_7) (by kernel_rfl) (by kernel_rfl) (by kernel_rfl) (by kernel_rfl) (fun _ _ _ h => h) (Or.inl ⟨by kernel_rfl, ?h2_7⟩) hHeld ?r2_7
            case h2_7 => (intro w hSw; (try dsimp only at hSw); go_simp; try with_reducible rfl)
            try simp only [Act.put, List.setIfInBounds_toArray, List.set_cons_zero, List.set_cons_succ]
            refine wpAnyH_ready (rs := [8]) (by kernel_rfl) (by simp) ?_
            refine AllReadyH.cons (i := 8) (o := { dst := some 49, op := Op.call { callee := Callee.value (Operand.func 50), args := #[Operand.tmp 44, Operand.tmp 48], argTypes := #[46, 46] }, type := 4, pos := "ref.go:150", after := #[{ on := 3, ground := Ground.data }, { on := 7, ground := Ground.data }, { on := 2, ground := Ground.chain }, { on := 2, ground := Ground.guard }], guard := some (2, true) }) rfl (fun K hK => ?_) AllReadyH.nil
            go_simp
            refine (rahead_any (ex, ec, esy) (ox, oc, osy) _).mono ?_
            rintro e' w4 ⟨rfl, hb4⟩
            rw [HCD.out]
            go_wp2_with fail
            refine hK.out _ _ (by exact keep8 (by assumption) (by assumption)) (fun hHeld => ?_)
            clear hK K
            try simp only [Act.put, List.setIfInBounds_toArray, List.set_cons_zero, List.set_cons_succ]
            refine wpAnyH_take (i := 9) (oi := { dst := some 50, op := Op.pick (Operand.tmp 43) (Operand.tmp 49) (Operand.const (Value.bool false)), type := 4, pos := "ref.go:150", after := #[{ on := 2, ground := Ground.data }, { on := 8, ground := Ground.data }], guard := none }) (v := ?v2_9) (by kernel_rfl) (by kernel_rfl) (by kernel_rfl) (by kernel_rfl) (fun _ _ _ h => h) (Or.inl ⟨by kernel_rfl, ?h2_9⟩) hHeld ?r2_9
            case h2_9 => (intro w hSw; (try dsimp only at hSw); go_simp; try with_reducible rfl)
            try simp only [Act.put, List.setIfInBounds_toArray, List.set_cons_zero, List.set_cons_succ]
            refine wpAnyH_done (by kernel_rfl) ?_ _
            have HB := Lib.hid hHeld.1.2.2.2.2.1
            have HRW := Lib.hid hHeld.2
            obtain ⟨b0, b1, b2, q0, q1, q2⟩ : _ ∧ _ ∧ _ ∧ _ ∧ _ ∧ _ := ⟨hHeld.1.1, hHeld.1.2.1, hHeld.1.2.2.1, hHeld.1.2.2.2.2.2.1, hHeld.1.2.2.2.2.2.2.1, hHeld.1.2.2.2.2.2.2.2.1⟩
            clear hHeld hS k0 k1 k2 h0 h1 h2
            go_wp2_with (at_builtin; refine wpList_append_own _ rfl _ _ 42 rfl w3.heap.size 46 i0 (.agg #[.string ⟨#[]⟩, .int .u8 0, .string ⟨#[]⟩]) 3 40 Tryz.underlying42 hi hz0 hz1 hz2 rfl (by decide) _ _ _ rfl ((HRW.out).alloc _) ⟨w4.heap.size, 0, none⟩ 1 1 [str ex, byteV ec, str esy] rfl rfl ?a2 ?b2 ?c2 ?d2 ?e2 ?_)
            try (case a2 => first | exact three_new _ _ rfl _ _ _ _ | exact three_new _ _ (by simp) _ _ _ _ | exact three_new0 _ _ rfl _ _ _ _ | exact three_new0 _ _ (by simp) _ _ _ _)
            case b2 => simp [Value.oneCell']
            case c2 => (unfold maxLen; omega)
            case d2 => omega
            case e2 => (have := (HB.out).size; first | omega | (simp; omega))
            intro v5 w5 hown2 hgrow2 _
            have HG2 := Lib.hid (((HB.out).alloc (by have := (HB.out).size; first | omega | (simp; omega)) (.cells #[str ex, byteV ec, str esy] 46)).grown hgrow2 (by have := (HB.out).size; first | omega | (simp; omega)) (own_ge (HRW.out)))
            have HR2 := Lib.hid (rowE_put (f := (ex, ec, esy)) hown2 (by simp))
            clear hgrow2 hown2
            have hbz : b < w3.heap.size := by omega
            skip
            replace q0 := ((HG2.out).cell (p := ⟨b, _, none⟩) hbz).trans (((HB.out).cell (p := ⟨b, _, none⟩) hbz).symm.trans q0)
            replace q1 := ((HG2.out).cell (p := ⟨b, _, none⟩) hbz).trans (((HB.out).cell (p := ⟨b, _, none⟩) hbz).symm.trans q1)
            replace q2 := ((HG2.out).cell (p := ⟨b, _, none⟩) hbz).trans (((HB.out).cell (p := ⟨b, _, none⟩) hbz).symm.trans q2)
            have hpl2 : (putK l (ex, ec, esy) k ++ [(ex, ec, esy)]).length ≤ k + 2 := by simp; omega
            clear b0 b1 b2
            go_wp2_with (at_builtin; refine wpList_append_own _ rfl _ _ 42 rfl w3.heap.size 46 i0 (.agg #[.string ⟨#[]⟩, .int .u8 0, .string ⟨#[]⟩]) 3 40 Tryz.underlying42 hi hz0 hz1 hz2 rfl (by decide) _ _ _ rfl ((HR2.out).alloc _) ⟨w5.heap.size, 0, none⟩ 1 1 [str ox, byteV oc, str osy] rfl rfl ?a3 ?b3 ?c3 ?d3 ?e3 ?_)
            try (case a3 => first | exact three_new _ _ rfl _ _ _ _ | exact three_new _ _ (by simp) _ _ _ _ | exact three_new0 _ _ rfl _ _ _ _ | exact three_new0 _ _ (by simp) _ _ _ _)
            case b3 => simp [Value.oneCell']
            case c3 => (unfold maxLen; omega)
            case d3 => omega
            case e3 => (have := (HG2.out).size; first | omega | (simp; omega))
            intro v6 w6 hown3 hgrow3 _
            have HG3 := Lib.hid (((HG2.out).alloc (by have := (HG2.out).size; first | omega | (simp; omega)) (.cells #[str ox, byteV oc, str osy] 46)).grown hgrow3 (by have := (HG2.out).size; first | omega | (simp; omega)) (own_ge (HR2.out)))
            have HR3 := Lib.hid (rowE_put (f := (ox, oc, osy)) hown3 (by simp))
            clear hgrow3 hown3
            go_wp2_with fail
            go_roundw
            case rel => exact ⟨k + 1, by omega, by go_num, by rw [HPT.out], by rw [HPK.out]; exact HR3.out, HG3.out, HNO.out HTF.out⟩
            case measure => simp [intOf]; omega
          · have HCD : Hid (decide (cmpL (ex, ec, esy) (ox, oc, osy) < 0) = false) := Lib.hid (HHD.out.trans (decide_eq_false (by omega)))
            have HPK := Lib.hid (HSM.out (by omega))
            have HPT : Hid (decide (atL l (ex, ec, esy) < k + 1) = false) := Lib.hid (decide_eq_false (by omega))
            clear hat
            go_wp2_with fail
            go_quiet (fail)
            go_wp2_with fail
            have hS : ∀ m, S8 w3 (wr.drewN m) w.heap.size (ex, ec, esy) b (off + k * 3) (ox, oc, osy) 46 u6 _ := fun m => ⟨⟨k0, k1, k2, by show w.heap.size < wr.heap.size; omega, below_drewN hb m, h0, h1, h2, by show b < wr.heap.size; omega⟩, HROW.out⟩
            refine wp_region_held_drew (S := fun W => S8 w3 W w.heap.size (ex, ec, esy) b (off + k * 3) (ox, oc, osy) 46 u6 (putK l (ex, ec, esy) k)) (by kernel_rfl) (by exact start8 (hS _)) (fun hHeld => ?_)
            refine wpAnyH_take (i := 0) (oi := { dst := some 41, op := Op.move (Operand.tmp 7), type := 4, pos := "ref.go:150", after := #[], guard := none }) (v := ?v3_0) (by kernel_rfl) (by kernel_rfl) (by kernel_rfl) (by kernel_rfl) (fun _ _ _ h => h) (Or.inl ⟨by kernel_rfl, ?h3_0⟩) hHeld ?r3_0
            case h3_0 => (intro w hSw; (try dsimp only at hSw); go_simp; try with_reducible rfl)
            try simp only [Act.put, List.setIfInBounds_toArray, List.set_cons_zero, List.set_cons_succ]
            refine wpAnyH_take (i := 1) (oi := { dst := some 42, op := Op.unOp UnOp.not 4 (Operand.tmp 41), type := 4, pos := "ref.go:150", after := #[{ on := 0, ground := Ground.data }], guard := none }) (v := ?v3_1) (by kernel_rfl) (by kernel_rfl) (by kernel_rfl) (by kernel_rfl) (fun _ _ _ h => h) (Or.inl ⟨by kernel_rfl, ?h3_1⟩) hHeld ?r3_1
            case h3_1 => (intro w hSw; (try dsimp only at hSw); go_simp; try with_reducible rfl)
            try simp only [Act.put, List.setIfInBounds_toArray, List.set_cons_zero, List.set_cons_succ]
            refine wpAnyH_take (i := 2) (oi := { dst := some 43, op := Op.move (Operand.tmp 42), type := 4, pos := "ref.go:150", after := #[{ on := 1, ground := Ground.data }], guard := none }) (v := ?v3_2) (by kernel_rfl) (by kernel_rfl) (by kernel_rfl) (by kernel_rfl) (fun _ _ _ h => h) (Or.inl ⟨by kernel_rfl, ?h3_2⟩) hHeld ?r3_2
            case h3_2 => (intro w hSw; (try dsimp only at hSw); go_simp; try with_reducible rfl)
            try simp only [Act.put, List.setIfInBounds_toArray, List.set_cons_zero, List.set_cons_succ]
            refine wpAnyH_take (i := 3) (oi := { dst := some 44, op := Op.load 46 (Operand.tmp 3), type := 46, pos := "ref.go:150", after := #[{ on := 2, ground := Ground.guard }], guard := some (2, true) }) (v := ?v3_3) (by kernel_rfl) (by kernel_rfl) (by kernel_rfl) (by kernel_rfl) (fun _ _ _ h => h) (Or.inl ⟨by kernel_rfl, ?h3_3⟩) hHeld ?r3_3
            case h3_3 => (intro w hSw; (try dsimp only at hSw); go_simp; try with_reducible rfl)
            try simp only [Act.put, List.setIfInBounds_toArray, List.set_cons_zero, List.set_cons_succ]
            refine wpAnyH_take (i := 4) (oi := { dst := some 45, op := Op.move (Operand.tmp 0), type := 42, pos := "ref.go:150", after := #[{ on := 2, ground := Ground.guard }], guard := some (2, true) }) (v := ?v3_4) (by kernel_rfl) (by kernel_rfl) (by kernel_rfl) (by kernel_rfl) (fun _ _ _ h => h) (Or.inl ⟨by kernel_rfl, ?h3_4⟩) hHeld ?r3_4
            case h3_4 => (intro w hSw; (try dsimp only at hSw); go_simp; try with_reducible rfl)
            try simp only [Act.put, List.setIfInBounds_toArray, List.set_cons_zero, List.set_cons_succ]
            refine wpAnyH_take (i := 5) (oi := { dst := some 46, op := Op.move (Operand.tmp 8), type := 3, pos := "ref.go:150", after := #[{ on := 2, ground := Ground.guard }], guard := some (2, true) }) (v := ?v3_5) (by kernel_rfl) (by kernel_rfl) (by kernel_rfl) (by kernel_rfl) (fun _ _ _ h => h) (Or.inl ⟨by kernel_rfl, ?h3_5⟩) hHeld ?r3_5
            case h3_5 => (intro w hSw; (try dsimp only at hSw); go_simp; try with_reducible rfl)
            try simp only [Act.put, List.setIfInBounds_toArray, List.set_cons_zero, List.set_cons_succ]
            refine wpAnyH_take (i := 6) (oi := { dst := some 47, op := Op.indexAddr 42 (Operand.tmp 45) (Operand.tmp 46), type := 0, pos := "ref.go:150", after := #[{ on := 4, ground := Ground.data }, { on := 5, ground := Ground.data }, { on := 2, ground := Ground.guard }], guard := some (2, true) }) (v := ?v3_6) (by kernel_rfl) (by kernel_rfl) (by kernel_rfl) (by kernel_rfl) (fun _ _ _ h => h) (Or.inl ⟨by kernel_rfl, ?h3_6⟩) hHeld ?r3_6
            case h3_6 => (intro w hSw; (try dsimp only at hSw); go_simp; try with_reducible rfl)
            try simp only [Act.put, List.setIfInBounds_toArray, List.set_cons_zero, List.set_cons_succ]
            refine wpAnyH_take (i := 7) (oi := { dst := some 48, op := Op.load 46 (Operand.tmp 47), type := 46, pos := "ref.go:150", after := #[{ on := 6, ground := Ground.data }, { on := 2, ground := Ground.guard }], guard := some (2, true) }) (v := ?v3_7) (by kernel_rfl) (by kernel_rfl) (by kernel_rfl) (by kernel_rfl) (fun _ _ _ h => h) (Or.inl ⟨by kernel_rfl, ?h3_7⟩) hHeld ?r3_7
            case h3_7 => (intro w hSw; (try dsimp only at hSw); go_simp; try with_reducible rfl)
            try simp only [Act.put, List.setIfInBounds_toArray, List.set_cons_zero, List.set_cons_succ]
            refine wpAnyH_ready (rs := [8]) (by kernel_rfl) (by simp) ?_
            refine AllReadyH.cons (i := 8) (o := { dst := some 49, op := Op.call { callee := Callee.value (Operand.func 50), args := #[Operand.tmp 44, Operand.tmp 48], argTypes := #[46, 46] }, type := 4, pos := "ref.go:150", after := #[{ on := 3, ground := Ground.data }, { on := 7, ground := Ground.data }, { on := 2, ground := Ground.chain }, { on := 2, ground := Ground.guard }], guard := some (2, true) }) rfl (fun K hK => ?_) AllReadyH.nil
            go_simp
            refine (rahead_any (ex, ec, esy) (ox, oc, osy) _).mono ?_
            rintro e' w4 ⟨rfl, hb4⟩
            rw [HCD.out]
            go_wp2_with fail
            refine hK.out _ _ (by exact keep8 (by assumption) (by assumption)) (fun hHeld => ?_)
            clear hK K
            try simp only [Act.put, List.setIfInBounds_toArray, List.set_cons_zero, List.set_cons_succ]
            refine wpAnyH_take (i := 9) (oi := { dst := some 50, op := Op.pick (Operand.tmp 43) (Operand.tmp 49) (Operand.const (Value.bool false)), type := 4, pos := "ref.go:150", after := #[{ on := 2, ground := Ground.data }, { on := 8, ground := Ground.data }], guard := none }) (v := ?v3_9) (by kernel_rfl) (by kernel_rfl) (by kernel_rfl) (by kernel_rfl) (fun _ _ _ h => h) (Or.inl ⟨by kernel_rfl, ?h3_9⟩) hHeld ?r3_9
            case h3_9 => (intro w hSw; (try dsimp only at hSw); go_simp; try with_reducible rfl)
            try simp only [Act.put, List.setIfInBounds_toArray, List.set_cons_zero, List.set_cons_succ]
            refine wpAnyH_done (by kernel_rfl) ?_ _
            have HB := Lib.hid hHeld.1.2.2.2.2.1
            have HRW := Lib.hid hHeld.2
            obtain ⟨b0, b1, b2, q0, q1, q2⟩ : _ ∧ _ ∧ _ ∧ _ ∧ _ ∧ _ := ⟨hHeld.1.1, hHeld.1.2.1, hHeld.1.2.2.1, hHeld.1.2.2.2.2.2.1, hHeld.1.2.2.2.2.2.2.1, hHeld.1.2.2.2.2.2.2.2.1⟩
            clear hHeld hS k0 k1 k2 h0 h1 h2
            go_wp2_with (at_builtin; refine wpList_append_own _ rfl _ _ 42 rfl w3.heap.size 46 i0 (.agg #[.string ⟨#[]⟩, .int .u8 0, .string ⟨#[]⟩]) 3 40 Tryz.underlying42 hi hz0 hz1 hz2 rfl (by decide) _ _ _ rfl ((HRW.out).alloc _) ⟨w4.heap.size, 0, none⟩ 1 1 [str ox, byteV oc, str osy] rfl rfl ?a4 ?b4 ?c4 ?d4 ?e4 ?_)
            try (case a4 => first | exact three_new _ _ rfl _ _ _ _ | exact three_new _ _ (by simp) _ _ _ _ | exact three_new0 _ _ rfl _ _ _ _ | exact three_new0 _ _ (by simp) _ _ _ _)
            case b4 => simp [Value.oneCell']
            case c4 => (unfold maxLen; omega)
            case d4 => omega
            case e4 => (have := (HB.out).size; first | omega | (simp; omega))
            intro v5 w5 hown4 hgrow4 _
            have HG4 := Lib.hid (((HB.out).alloc (by have := (HB.out).size; first | omega | (simp; omega)) (.cells #[str ox, byteV oc, str osy] 46)).grown hgrow4 (by have := (HB.out).size; first | omega | (simp; omega)) (own_ge (HRW.out)))
            have HR4 := Lib.hid (rowE_put (f := (ox, oc, osy)) hown4 (by simp))
            clear hgrow4 hown4
            go_wp2_with fail
            go_roundw
            case rel => exact ⟨k + 1, by omega, by go_num, by rw [HPT.out], by rw [HPK.out]; exact HR4.out, HG4.out, HNO.out HTF.out⟩
            case measure => simp [intOf]; omega
      · cases hc : (oc == ec)
        · have HTF : Hid (twE (ex, ec, esy) (ox, oc, osy) = false) := Lib.hid (by rw [tw_parts]; simp only [hx, hc]; rfl)
          rw [hc] at hu; clear hc
          rcases Nat.lt_or_ge (atL l (ex, ec, esy)) k with hat | hat
          · rw [decide_eq_true hat] at hp
            subst hp
            have HPK := Lib.hid (HSM.out (by omega))
            have HPT : Hid (decide (atL l (ex, ec, esy) < k + 1) = true) := Lib.hid (decide_eq_true (by omega))
            clear hat
            go_wp2_with fail
            go_quiet (fail)
            go_wp2_with fail
            have hS : ∀ m, S8 w3 (wr.drewN m) w.heap.size (ex, ec, esy) b (off + k * 3) (ox, oc, osy) 46 u6 _ := fun m => ⟨⟨k0, k1, k2, by show w.heap.size < wr.heap.size; omega, below_drewN hb m, h0, h1, h2, by show b < wr.heap.size; omega⟩, HROW.out⟩
            refine wp_region_held_drew (S := fun W => S8 w3 W w.heap.size (ex, ec, esy) b (off + k * 3) (ox, oc, osy) 46 u6 (putK l (ex, ec, esy) k)) (by kernel_rfl) (by exact start8 (hS _)) (fun hHeld => ?_)
            refine wpAnyH_take (i := 0) (oi := { dst := some 41, op := Op.move (Operand.tmp 7), type := 4, pos := "ref.go:150", after := #[], guard := none }) (v := ?v4_0) (by kernel_rfl) (by kernel_rfl) (by kernel_rfl) (by kernel_rfl) (fun _ _ _ h => h) (Or.inl ⟨by kernel_rfl, ?h4_0⟩) hHeld ?r4_0
            case h4_0 => (intro w hSw; (try dsimp only at hSw); go_simp; try with_reducible rfl)
            try simp only [Act.put, List.setIfInBounds_toArray, List.set_cons_zero, List.set_cons_succ]
            refine wpAnyH_take (i := 1) (oi := { dst := some 42, op := Op.unOp UnOp.not 4 (Operand.tmp 41), type := 4, pos := "ref.go:150", after := #[{ on := 0, ground := Ground.data }], guard := none }) (v := ?v4_1) (by kernel_rfl) (by kernel_rfl) (by kernel_rfl) (by kernel_rfl) (fun _ _ _ h => h) (Or.inl ⟨by kernel_rfl, ?h4_1⟩) hHeld ?r4_1
            case h4_1 => (intro w hSw; (try dsimp only at hSw); go_simp; try with_reducible rfl)
            try simp only [Act.put, List.setIfInBounds_toArray, List.set_cons_zero, List.set_cons_succ]
            refine wpAnyH_take (i := 2) (oi := { dst := some 43, op := Op.move (Operand.tmp 42), type := 4, pos := "ref.go:150", after := #[{ on := 1, ground := Ground.data }], guard := none }) (v := ?v4_2) (by kernel_rfl) (by kernel_rfl) (by kernel_rfl) (by kernel_rfl) (fun _ _ _ h => h) (Or.inl ⟨by kernel_rfl, ?h4_2⟩) hHeld ?r4_2
            case h4_2 => (intro w hSw; (try dsimp only at hSw); go_simp; try with_reducible rfl)
            try simp only [Act.put, List.setIfInBounds_toArray, List.set_cons_zero, List.set_cons_succ]
            refine wpAnyH_take (i := 3) (oi := { dst := some 44, op := Op.load 46 (Operand.tmp 3), type := 46, pos := "ref.go:150", after := #[{ on := 2, ground := Ground.guard }], guard := some (2, true) }) (v := undef) (by kernel_rfl) (by kernel_rfl) (by kernel_rfl) (by kernel_rfl) (fun _ _ _ h => h) (Or.inr ⟨by kernel_rfl, rfl⟩) hHeld ?_
            try simp only [Act.put, List.setIfInBounds_toArray, List.set_cons_zero, List.set_cons_succ]
            refine wpAnyH_take (i := 4) (oi := { dst := some 45, op := Op.move (Operand.tmp 0), type := 42, pos := "ref.go:150", after := #[{ on := 2, ground := Ground.guard }], guard := some (2, true) }) (v := undef) (by kernel_rfl) (by kernel_rfl) (by kernel_rfl) (by kernel_rfl) (fun _ _ _ h => h) (Or.inr ⟨by kernel_rfl, rfl⟩) hHeld ?_
            try simp only [Act.put, List.setIfInBounds_toArray, List.set_cons_zero, List.set_cons_succ]
            refine wpAnyH_take (i := 5) (oi := { dst := some 46, op := Op.move (Operand.tmp 8), type := 3, pos := "ref.go:150", after := #[{ on := 2, ground := Ground.guard }], guard := some (2, true) }) (v := undef) (by kernel_rfl) (by kernel_rfl) (by kernel_rfl) (by kernel_rfl) (fun _ _ _ h => h) (Or.inr ⟨by kernel_rfl, rfl⟩) hHeld ?_
            try simp only [Act.put, List.setIfInBounds_toArray, List.set_cons_zero, List.set_cons_succ]
            refine wpAnyH_take (i := 6) (oi := { dst := some 47, op := Op.indexAddr 42 (Operand.tmp 45) (Operand.tmp 46), type := 0, pos := "ref.go:150", after := #[{ on := 4, ground := Ground.data }, { on := 5, ground := Ground.data }, { on := 2, ground := Ground.guard }], guard := some (2, true) }) (v := undef) (by kernel_rfl) (by kernel_rfl) (by kernel_rfl) (by kernel_rfl) (fun _ _ _ h => h) (Or.inr ⟨by kernel_rfl, rfl⟩) hHeld ?_
            try simp only [Act.put, List.setIfInBounds_toArray, List.set_cons_zero, List.set_cons_succ]
            refine wpAnyH_take (i := 7) (oi := { dst := some 48, op := Op.load 46 (Operand.tmp 47), type := 46, pos := "ref.go:150", after := #[{ on := 6, ground := Ground.data }, { on := 2, ground := Ground.guard }], guard := some (2, true) }) (v := undef) (by kernel_rfl) (by kernel_rfl) (by kernel_rfl) (by kernel_rfl) (fun _ _ _ h => h) (Or.inr ⟨by kernel_rfl, rfl⟩) hHeld ?_
            try simp only [Act.put, List.setIfInBounds_toArray, List.set_cons_zero, List.set_cons_succ]
            refine wpAnyH_take (i := 8) (oi := { dst := some 49, op := Op.call { callee := Callee.value (Operand.func 50), args := #[Operand.tmp 44, Operand.tmp 48], argTypes := #[46, 46] }, type := 4, pos := "ref.go:150", after := #[{ on := 3, ground := Ground.data }, { on := 7, ground := Ground.data }, { on := 2, ground := Ground.chain }, { on := 2, ground := Ground.guard }], guard := some (2, true) }) (v := undef) (by kernel_rfl) (by kernel_rfl) (by kernel_rfl) (by kernel_rfl) (fun _ _ _ h => h) (Or.inr ⟨by kernel_rfl, rfl⟩) hHeld ?_
            try simp only [Act.put, List.setIfInBounds_toArray, List.set_cons_zero, List.set_cons_succ]
            refine wpAnyH_take (i := 9) (oi := { dst := some 50, op := Op.pick (Operand.tmp 43) (Operand.tmp 49) (Operand.const (Value.bool false)), type := 4, pos := "ref.go:150", after := #[{ on := 2, ground := Ground.data }, { on := 8, ground := Ground.data }], guard := none }) (v := ?v4_9) (by kernel_rfl) (by kernel_rfl) (by kernel_rfl) (by kernel_rfl) (fun _ _ _ h => h) (Or.inl ⟨by kernel_rfl, ?h4_9⟩) hHeld ?r4_9
            case h4_9 => (intro w hSw; (try dsimp only at hSw); go_simp; try with_reducible rfl)
            try simp only [Act.put, List.setIfInBounds_toArray, List.set_cons_zero, List.set_cons_succ]
            refine wpAnyH_done (by kernel_rfl) ?_ _
            have HB := Lib.hid hHeld.1.2.2.2.2.1
            have HRW := Lib.hid hHeld.2
            obtain ⟨q0, q1, q2⟩ : _ ∧ _ ∧ _ := ⟨hHeld.1.2.2.2.2.2.1, hHeld.1.2.2.2.2.2.2.1, hHeld.1.2.2.2.2.2.2.2.1⟩
            clear hHeld hS
            go_wp2_with (at_builtin; refine wpList_append_own _ rfl _ _ 42 rfl w3.heap.size 46 i0 (.agg #[.string ⟨#[]⟩, .int .u8 0, .string ⟨#[]⟩]) 3 40 Tryz.underlying42 hi hz0 hz1 hz2 rfl (by decide) _ _ _ rfl ((HRW.out).alloc _) ⟨wr.heap.size, 0, none⟩ 1 1 [str ox, byteV oc, str osy] rfl rfl ?a5 ?b5 ?c5 ?d5 ?e5 ?_)
            try (case a5 => first | exact three_new _ _ rfl _ _ _ _ | exact three_new _ _ (by simp) _ _ _ _ | exact three_new0 _ _ rfl _ _ _ _ | exact three_new0 _ _ (by simp) _ _ _ _)
            case b5 => simp [Value.oneCell']
            case c5 => (unfold maxLen; omega)
            case d5 => omega
            case e5 => (have := (HB.out).size; first | omega | (simp; omega))
            intro v5 w5 hown5 hgrow5 _
            have HG5 := Lib.hid (((HB.out).alloc (by have := (HB.out).size; first | omega | (simp; omega)) (.cells #[str ox, byteV oc, str osy] 46)).grown hgrow5 (by have := (HB.out).size; first | omega | (simp; omega)) (own_ge (HRW.out)))
            have HR5 := Lib.hid (rowE_put (f := (ox, oc, osy)) hown5 (by simp))
            clear hgrow5 hown5
            go_wp2_with fail
            go_roundw
            case rel => exact ⟨k + 1, by omega, by go_num, by rw [HPT.out], by rw [HPK.out]; exact HR5.out, HG5.out, HNO.out HTF.out⟩
            case measure => simp [intOf]; omega
          · rw [decide_eq_false (by omega)] at hp
            subst hp
            have HHD := Lib.hid (HHR.out hat HTF.out)
            rcases Nat.eq_or_lt_of_le hat with hat | hat
            · have HCD : Hid (decide (cmpL (ex, ec, esy) (ox, oc, osy) < 0) = true) := Lib.hid (HHD.out.trans (decide_eq_true hat.symm))
              have HPK := Lib.hid (HPA.out hat.symm)
              have HPT : Hid (decide (atL l (ex, ec, esy) < k + 1) = true) := Lib.hid (decide_eq_true (by omega))
              clear hat
              go_wp2_with fail
              go_quiet (fail)
              go_wp2_with fail
              have hS : ∀ m, S8 w3 (wr.drewN m) w.heap.size (ex, ec, esy) b (off + k * 3) (ox, oc, osy) 46 u6 _ := fun m => ⟨⟨k0, k1, k2, by show w.heap.size < wr.heap.size; omega, below_drewN hb m, h0, h1, h2, by show b < wr.heap.size; omega⟩, HROW.out⟩
              refine wp_region_held_drew (S := fun W => S8 w3 W w.heap.size (ex, ec, esy) b (off + k * 3) (ox, oc, osy) 46 u6 (putK l (ex, ec, esy) k)) (by kernel_rfl) (by exact start8 (hS _)) (fun hHeld => ?_)
              refine wpAnyH_take (i := 0) (oi := { dst := some 41, op := Op.move (Operand.tmp 7), type := 4, pos := "ref.go:150", after := #[], guard := none }) (v := ?v5_0) (by kernel_rfl) (by kernel_rfl) (by kernel_rfl) (by kernel_rfl) (fun _ _ _ h => h) (Or.inl ⟨by kernel_rfl, ?h5_0⟩) hHeld ?r5_0
              case h5_0 => (intro w hSw; (try dsimp only at hSw); go_simp; try with_reducible rfl)
              try simp only [Act.put, List.setIfInBounds_toArray, List.set_cons_zero, List.set_cons_succ]
              refine wpAnyH_take (i := 1) (oi := { dst := some 42, op := Op.unOp UnOp.not 4 (Operand.tmp 41), type := 4, pos := "ref.go:150", after := #[{ on := 0, ground := Ground.data }], guard := none }) (v := ?v5_1) (by kernel_rfl) (by kernel_rfl) (by kernel_rfl) (by kernel_rfl) (fun _ _ _ h => h) (Or.inl ⟨by kernel_rfl, ?h5_1⟩) hHeld ?r5_1
              case h5_1 => (intro w hSw; (try dsimp only at hSw); go_simp; try with_reducible rfl)
              try simp only [Act.put, List.setIfInBounds_toArray, List.set_cons_zero, List.set_cons_succ]
              refine wpAnyH_take (i := 2) (oi := { dst := some 43, op := Op.move (Operand.tmp 42), type := 4, pos := "ref.go:150", after := #[{ on := 1, ground := Ground.data }], guard := none }) (v := ?v5_2) (by kernel_rfl) (by kernel_rfl) (by kernel_rfl) (by kernel_rfl) (fun _ _ _ h => h) (Or.inl ⟨by kernel_rfl, ?h5_2⟩) hHeld ?r5_2
              case h5_2 => (intro w hSw; (try dsimp only at hSw); go_simp; try with_reducible rfl)
              try simp only [Act.put, List.setIfInBounds_toArray, List.set_cons_zero, List.set_cons_succ]
              refine wpAnyH_take (i := 3) (oi := { dst := some 44, op := Op.load 46 (Operand.tmp 3), type := 46, pos := "ref.go:150", after := #[{ on := 2, ground := Ground.guard }], guard := some (2, true) }) (v := ?v5_3) (by kernel_rfl) (by kernel_rfl) (by kernel_rfl) (by kernel_rfl) (fun _ _ _ h => h) (Or.inl ⟨by kernel_rfl, ?h5_3⟩) hHeld ?r5_3
              case h5_3 => (intro w hSw; (try dsimp only at hSw); go_simp; try with_reducible rfl)
              try simp only [Act.put, List.setIfInBounds_toArray, List.set_cons_zero, List.set_cons_succ]
              refine wpAnyH_take (i := 4) (oi := { dst := some 45, op := Op.move (Operand.tmp 0), type := 42, pos := "ref.go:150", after := #[{ on := 2, ground := Ground.guard }], guard := some (2, true) }) (v := ?v5_4) (by kernel_rfl) (by kernel_rfl) (by kernel_rfl) (by kernel_rfl) (fun _ _ _ h => h) (Or.inl ⟨by kernel_rfl, ?h5_4⟩) hHeld ?r5_4
              case h5_4 => (intro w hSw; (try dsimp only at hSw); go_simp; try with_reducible rfl)
              try simp only [Act.put, List.setIfInBounds_toArray, List.set_cons_zero, List.set_cons_succ]
              refine wpAnyH_take (i := 5) (oi := { dst := some 46, op := Op.move (Operand.tmp 8), type := 3, pos := "ref.go:150", after := #[{ on := 2, ground := Ground.guard }], guard := some (2, true) }) (v := ?v5_5) (by kernel_rfl) (by kernel_rfl) (by kernel_rfl) (by kernel_rfl) (fun _ _ _ h => h) (Or.inl ⟨by kernel_rfl, ?h5_5⟩) hHeld ?r5_5
              case h5_5 => (intro w hSw; (try dsimp only at hSw); go_simp; try with_reducible rfl)
              try simp only [Act.put, List.setIfInBounds_toArray, List.set_cons_zero, List.set_cons_succ]
              refine wpAnyH_take (i := 6) (oi := { dst := some 47, op := Op.indexAddr 42 (Operand.tmp 45) (Operand.tmp 46), type := 0, pos := "ref.go:150", after := #[{ on := 4, ground := Ground.data }, { on := 5, ground := Ground.data }, { on := 2, ground := Ground.guard }], guard := some (2, true) }) (v := ?v5_6) (by kernel_rfl) (by kernel_rfl) (by kernel_rfl) (by kernel_rfl) (fun _ _ _ h => h) (Or.inl ⟨by kernel_rfl, ?h5_6⟩) hHeld ?r5_6
              case h5_6 => (intro w hSw; (try dsimp only at hSw); go_simp; try with_reducible rfl)
              try simp only [Act.put, List.setIfInBounds_toArray, List.set_cons_zero, List.set_cons_succ]
              refine wpAnyH_take (i := 7) (oi := { dst := some 48, op := Op.load 46 (Operand.tmp 47), type := 46, pos := "ref.go:150", after := #[{ on := 6, ground := Ground.data }, { on := 2, ground := Ground.guard }], guard := some (2, true) }) (v := ?v5_7) (by kernel_rfl) (by kernel_rfl) (by kernel_rfl) (by kernel_rfl) (fun _ _ _ h => h) (Or.inl ⟨by kernel_rfl, ?h5_7⟩) hHeld ?r5_7
              case h5_7 => (intro w hSw; (try dsimp only at hSw); go_simp; try with_reducible rfl)
              try simp only [Act.put, List.setIfInBounds_toArray, List.set_cons_zero, List.set_cons_succ]
              refine wpAnyH_ready (rs := [8]) (by kernel_rfl) (by simp) ?_
              refine AllReadyH.cons (i := 8) (o := { dst := some 49, op := Op.call { callee := Callee.value (Operand.func 50), args := #[Operand.tmp 44, Operand.tmp 48], argTypes := #[46, 46] }, type := 4, pos := "ref.go:150", after := #[{ on := 3, ground := Ground.data }, { on := 7, ground := Ground.data }, { on := 2, ground := Ground.chain }, { on := 2, ground := Ground.guard }], guard := some (2, true) }) rfl (fun K hK => ?_) AllReadyH.nil
              go_simp
              refine (rahead_any (ex, ec, esy) (ox, oc, osy) _).mono ?_
              rintro e' w4 ⟨rfl, hb4⟩
              rw [HCD.out]
              go_wp2_with fail
              refine hK.out _ _ (by exact keep8 (by assumption) (by assumption)) (fun hHeld => ?_)
              clear hK K
              try simp only [Act.put, List.setIfInBounds_toArray, List.set_cons_zero, List.set_cons_succ]
              refine wpAnyH_take (i := 9) (oi := { dst := some 50, op := Op.pick (Operand.tmp 43) (Operand.tmp 49) (Operand.const (Value.bool false)), type := 4, pos := "ref.go:150", after := #[{ on := 2, ground := Ground.data }, { on := 8, ground := Ground.data }], guard := none }) (v := ?v5_9) (by kernel_rfl) (by kernel_rfl) (by kernel_rfl) (by kernel_rfl) (fun _ _ _ h => h) (Or.inl ⟨by kernel_rfl, ?h5_9⟩) hHeld ?r5_9
              case h5_9 => (intro w hSw; (try dsimp only at hSw); go_simp; try with_reducible rfl)
              try simp only [Act.put, List.setIfInBounds_toArray, List.set_cons_zero, List.set_cons_succ]
              refine wpAnyH_done (by kernel_rfl) ?_ _
              have HB := Lib.hid hHeld.1.2.2.2.2.1
              have HRW := Lib.hid hHeld.2
              obtain ⟨b0, b1, b2, q0, q1, q2⟩ : _ ∧ _ ∧ _ ∧ _ ∧ _ ∧ _ := ⟨hHeld.1.1, hHeld.1.2.1, hHeld.1.2.2.1, hHeld.1.2.2.2.2.2.1, hHeld.1.2.2.2.2.2.2.1, hHeld.1.2.2.2.2.2.2.2.1⟩
              clear hHeld hS k0 k1 k2 h0 h1 h2
              go_wp2_with (at_builtin; refine wpList_append_own _ rfl _ _ 42 rfl w3.heap.size 46 i0 (.agg #[.string ⟨#[]⟩, .int .u8 0, .string ⟨#[]⟩]) 3 40 Tryz.underlying42 hi hz0 hz1 hz2 rfl (by decide) _ _ _ rfl ((HRW.out).alloc _) ⟨w4.heap.size, 0, none⟩ 1 1 [str ex, byteV ec, str esy] rfl rfl ?a6 ?b6 ?c6 ?d6 ?e6 ?_)
              try (case a6 => first | exact three_new _ _ rfl _ _ _ _ | exact three_new _ _ (by simp) _ _ _ _ | exact three_new0 _ _ rfl _ _ _ _ | exact three_new0 _ _ (by simp) _ _ _ _)
              case b6 => simp [Value.oneCell']
              case c6 => (unfold maxLen; omega)
              case d6 => omega
              case e6 => (have := (HB.out).size; first | omega | (simp; omega))
              intro v5 w5 hown6 hgrow6 _
              have HG6 := Lib.hid (((HB.out).alloc (by have := (HB.out).size; first | omega | (simp; omega)) (.cells #[str ex, byteV ec, str esy] 46)).grown hgrow6 (by have := (HB.out).size; first | omega | (simp; omega)) (own_ge (HRW.out)))
              have HR6 := Lib.hid (rowE_put (f := (ex, ec, esy)) hown6 (by simp))
              clear hgrow6 hown6
              have hbz : b < w3.heap.size := by omega
              skip
              replace q0 := ((HG6.out).cell (p := ⟨b, _, none⟩) hbz).trans (((HB.out).cell (p := ⟨b, _, none⟩) hbz).symm.trans q0)
              replace q1 := ((HG6.out).cell (p := ⟨b, _, none⟩) hbz).trans (((HB.out).cell (p := ⟨b, _, none⟩) hbz).symm.trans q1)
              replace q2 := ((HG6.out).cell (p := ⟨b, _, none⟩) hbz).trans (((HB.out).cell (p := ⟨b, _, none⟩) hbz).symm.trans q2)
              have hpl2 : (putK l (ex, ec, esy) k ++ [(ex, ec, esy)]).length ≤ k + 2 := by simp; omega
              clear b0 b1 b2
              go_wp2_with (at_builtin; refine wpList_append_own _ rfl _ _ 42 rfl w3.heap.size 46 i0 (.agg #[.string ⟨#[]⟩, .int .u8 0, .string ⟨#[]⟩]) 3 40 Tryz.underlying42 hi hz0 hz1 hz2 rfl (by decide) _ _ _ rfl ((HR6.out).alloc _) ⟨w5.heap.size, 0, none⟩ 1 1 [str ox, byteV oc, str osy] rfl rfl ?a7 ?b7 ?c7 ?d7 ?e7 ?_)
              try (case a7 => first | exact three_new _ _ rfl _ _ _ _ | exact three_new _ _ (by simp) _ _ _ _ | exact three_new0 _ _ rfl _ _ _ _ | exact three_new0 _ _ (by simp) _ _ _ _)
              case b7 => simp [Value.oneCell']
              case c7 => (unfold maxLen; omega)
              case d7 => omega
              case e7 => (have := (HG6.out).size; first | omega | (simp; omega))
              intro v6 w6 hown7 hgrow7 _
              have HG7 := Lib.hid (((HG6.out).alloc (by have := (HG6.out).size; first | omega | (simp; omega)) (.cells #[str ox, byteV oc, str osy] 46)).grown hgrow7 (by have := (HG6.out).size; first | omega | (simp; omega)) (own_ge (HR6.out)))
              have HR7 := Lib.hid (rowE_put (f := (ox, oc, osy)) hown7 (by simp))
              clear hgrow7 hown7
              go_wp2_with fail
              go_roundw
              case rel => exact ⟨k + 1, by omega, by go_num, by rw [HPT.out], by rw [HPK.out]; exact HR7.out, HG7.out, HNO.out HTF.out⟩
              case measure => simp [intOf]; omega
            · have HCD : Hid (decide (cmpL (ex, ec, esy) (ox, oc, osy) < 0) = false) := Lib.hid (HHD.out.trans (decide_eq_false (by omega)))
              have HPK := Lib.hid (HSM.out (by omega))
              have HPT : Hid (decide (atL l (ex, ec, esy) < k + 1) = false) := Lib.hid (decide_eq_false (by omega))
              clear hat
              go_wp2_with fail
              go_quiet (fail)
              go_wp2_with fail
              have hS : ∀ m, S8 w3 (wr.drewN m) w.heap.size (ex, ec, esy) b (off + k * 3) (ox, oc, osy) 46 u6 _ := fun m => ⟨⟨k0, k1, k2, by show w.heap.size < wr.heap.size; omega, below_drewN hb m, h0, h1, h2, by show b < wr.heap.size; omega⟩, HROW.out⟩
              refine wp_region_held_drew (S := fun W => S8 w3 W w.heap.size (ex, ec, esy) b (off + k * 3) (ox, oc, osy) 46 u6 (putK l (ex, ec, esy) k)) (by kernel_rfl) (by exact start8 (hS _)) (fun hHeld => ?_)
              refine wpAnyH_take (i := 0) (oi := { dst := some 41, op := Op.move (Operand.tmp 7), type := 4, pos := "ref.go:150", after := #[], guard := none }) (v := ?v6_0) (by kernel_rfl) (by kernel_rfl) (by kernel_rfl) (by kernel_rfl) (fun _ _ _ h => h) (Or.inl ⟨by kernel_rfl, ?h6_0⟩) hHeld ?r6_0
              case h6_0 => (intro w hSw; (try dsimp only at hSw); go_simp; try with_reducible rfl)
              try simp only [Act.put, List.setIfInBounds_toArray, List.set_cons_zero, List.set_cons_succ]
              refine wpAnyH_take (i := 1) (oi := { dst := some 42, op := Op.unOp UnOp.not 4 (Operand.tmp 41), type := 4, pos := "ref.go:150", after := #[{ on := 0, ground := Ground.data }], guard := none }) (v := ?v6_1) (by kernel_rfl) (by kernel_rfl) (by kernel_rfl) (by kernel_rfl) (fun _ _ _ h => h) (Or.inl ⟨by kernel_rfl, ?h6_1⟩) hHeld ?r6_1
              case h6_1 => (intro w hSw; (try dsimp only at hSw); go_simp; try with_reducible rfl)
              try simp only [Act.put, List.setIfInBounds_toArray, List.set_cons_zero, List.set_cons_succ]
              refine wpAnyH_take (i := 2) (oi := { dst := some 43, op := Op.move (Operand.tmp 42), type := 4, pos := "ref.go:150", after := #[{ on := 1, ground := Ground.data }], guard := none }) (v := ?v6_2) (by kernel_rfl) (by kernel_rfl) (by kernel_rfl) (by kernel_rfl) (fun _ _ _ h => h) (Or.inl ⟨by kernel_rfl, ?h6_2⟩) hHeld ?r6_2
              case h6_2 => (intro w hSw; (try dsimp only at hSw); go_simp; try with_reducible rfl)
              try simp only [Act.put, List.setIfInBounds_toArray, List.set_cons_zero, List.set_cons_succ]
              refine wpAnyH_take (i := 3) (oi := { dst := some 44, op := Op.load 46 (Operand.tmp 3), type := 46, pos := "ref.go:150", after := #[{ on := 2, ground := Ground.guard }], guard := some (2, true) }) (v := ?v6_3) (by kernel_rfl) (by kernel_rfl) (by kernel_rfl) (by kernel_rfl) (fun _ _ _ h => h) (Or.inl ⟨by kernel_rfl, ?h6_3⟩) hHeld ?r6_3
              case h6_3 => (intro w hSw; (try dsimp only at hSw); go_simp; try with_reducible rfl)
              try simp only [Act.put, List.setIfInBounds_toArray, List.set_cons_zero, List.set_cons_succ]
              refine wpAnyH_take (i := 4) (oi := { dst := some 45, op := Op.move (Operand.tmp 0), type := 42, pos := "ref.go:150", after := #[{ on := 2, ground := Ground.guard }], guard := some (2, true) }) (v := ?v6_4) (by kernel_rfl) (by kernel_rfl) (by kernel_rfl) (by kernel_rfl) (fun _ _ _ h => h) (Or.inl ⟨by kernel_rfl, ?h6_4⟩) hHeld ?r6_4
              case h6_4 => (intro w hSw; (try dsimp only at hSw); go_simp; try with_reducible rfl)
              try simp only [Act.put, List.setIfInBounds_toArray, List.set_cons_zero, List.set_cons_succ]
              refine wpAnyH_take (i := 5) (oi := { dst := some 46, op := Op.move (Operand.tmp 8), type := 3, pos := "ref.go:150", after := #[{ on := 2, ground := Ground.guard }], guard := some (2, true) }) (v := ?v6_5) (by kernel_rfl) (by kernel_rfl) (by kernel_rfl) (by kernel_rfl) (fun _ _ _ h => h) (Or.inl ⟨by kernel_rfl, ?h6_5⟩) hHeld ?r6_5
              case h6_5 => (intro w hSw; (try dsimp only at hSw); go_simp; try with_reducible rfl)
              try simp only [Act.put, List.setIfInBounds_toArray, List.set_cons_zero, List.set_cons_succ]
              refine wpAnyH_take (i := 6) (oi := { dst := some 47, op := Op.indexAddr 42 (Operand.tmp 45) (Operand.tmp 46), type := 0, pos := "ref.go:150", after := #[{ on := 4, ground := Ground.data }, { on := 5, ground := Ground.data }, { on := 2, ground := Ground.guard }], guard := some (2, true) }) (v := ?v6_6) (by kernel_rfl) (by kernel_rfl) (by kernel_rfl) (by kernel_rfl) (fun _ _ _ h => h) (Or.inl ⟨by kernel_rfl, ?h6_6⟩) hHeld ?r6_6
              case h6_6 => (intro w hSw; (try dsimp only at hSw); go_simp; try with_reducible rfl)
              try simp only [Act.put, List.setIfInBounds_toArray, List.set_cons_zero, List.set_cons_succ]
              refine wpAnyH_take (i := 7) (oi := { dst := some 48, op := Op.load 46 (Operand.tmp 47), type := 46, pos := "ref.go:150", after := #[{ on := 6, ground := Ground.data }, { on := 2, ground := Ground.guard }], guard := some (2, true) }) (v := ?v6_7) (by kernel_rfl) (by kernel_rfl) (by kernel_rfl) (by kernel_rfl) (fun _ _ _ h => h) (Or.inl ⟨by kernel_rfl, ?h6_7⟩) hHeld ?r6_7
              case h6_7 => (intro w hSw; (try dsimp only at hSw); go_simp; try with_reducible rfl)
              try simp only [Act.put, List.setIfInBounds_toArray, List.set_cons_zero, List.set_cons_succ]
              refine wpAnyH_ready (rs := [8]) (by kernel_rfl) (by simp) ?_
              refine AllReadyH.cons (i := 8) (o := { dst := some 49, op := Op.call { callee := Callee.value (Operand.func 50), args := #[Operand.tmp 44, Operand.tmp 48], argTypes := #[46, 46] }, type := 4, pos := "ref.go:150", after := #[{ on := 3, ground := Ground.data }, { on := 7, ground := Ground.data }, { on := 2, ground := Ground.chain }, { on := 2, ground := Ground.guard }], guard := some (2, true) }) rfl (fun K hK => ?_) AllReadyH.nil
              go_simp
              refine (rahead_any (ex, ec, esy) (ox, oc, osy) _).mono ?_
              rintro e' w4 ⟨rfl, hb4⟩
              rw [HCD.out]
              go_wp2_with fail
              refine hK.out _ _ (by exact keep8 (by assumption) (by assumption)) (fun hHeld => ?_)
              clear hK K
              try simp only [Act.put, List.setIfInBounds_toArray, List.set_cons_zero, List.set_cons_succ]
              refine wpAnyH_take (i := 9) (oi := { dst := some 50, op := Op.pick (Operand.tmp 43) (Operand.tmp 49) (Operand.const (Value.bool false)), type := 4, pos := "ref.go:150", after := #[{ on := 2, ground := Ground.data }, { on := 8, ground := Ground.data }], guard := none }) (v := ?v6_9) (by kernel_rfl) (by kernel_rfl) (by kernel_rfl) (by kernel_rfl) (fun _ _ _ h => h) (Or.inl ⟨by kernel_rfl, ?h6_9⟩) hHeld ?r6_9
              case h6_9 => (intro w hSw; (try dsimp only at hSw); go_simp; try with_reducible rfl)
              try simp only [Act.put, List.setIfInBounds_toArray, List.set_cons_zero, List.set_cons_succ]
              refine wpAnyH_done (by kernel_rfl) ?_ _
              have HB := Lib.hid hHeld.1.2.2.2.2.1
              have HRW := Lib.hid hHeld.2
              obtain ⟨b0, b1, b2, q0, q1, q2⟩ : _ ∧ _ ∧ _ ∧ _ ∧ _ ∧ _ := ⟨hHeld.1.1, hHeld.1.2.1, hHeld.1.2.2.1, hHeld.1.2.2.2.2.2.1, hHeld.1.2.2.2.2.2.2.1, hHeld.1.2.2.2.2.2.2.2.1⟩
              clear hHeld hS k0 k1 k2 h0 h1 h2
              go_wp2_with (at_builtin; refine wpList_append_own _ rfl _ _ 42 rfl w3.heap.size 46 i0 (.agg #[.string ⟨#[]⟩, .int .u8 0, .string ⟨#[]⟩]) 3 40 Tryz.underlying42 hi hz0 hz1 hz2 rfl (by decide) _ _ _ rfl ((HRW.out).alloc _) ⟨w4.heap.size, 0, none⟩ 1 1 [str ox, byteV oc, str osy] rfl rfl ?a8 ?b8 ?c8 ?d8 ?e8 ?_)
              try (case a8 => first | exact three_new _ _ rfl _ _ _ _ | exact three_new _ _ (by simp) _ _ _ _ | exact three_new0 _ _ rfl _ _ _ _ | exact three_new0 _ _ (by simp) _ _ _ _)
              case b8 => simp [Value.oneCell']
              case c8 => (unfold maxLen; omega)
              case d8 => omega
              case e8 => (have := (HB.out).size; first | omega | (simp; omega))
              intro v5 w5 hown8 hgrow8 _
              have HG8 := Lib.hid (((HB.out).alloc (by have := (HB.out).size; first | omega | (simp; omega)) (.cells #[str ox, byteV oc, str osy] 46)).grown hgrow8 (by have := (HB.out).size; first | omega | (simp; omega)) (own_ge (HRW.out)))
              have HR8 := Lib.hid (rowE_put (f := (ox, oc, osy)) hown8 (by simp))
              clear hgrow8 hown8
              go_wp2_with fail
              go_roundw
              case rel => exact ⟨k + 1, by omega, by go_num, by rw [HPT.out], by rw [HPK.out]; exact HR8.out, HG8.out, HNO.out HTF.out⟩
              case measure => simp [intOf]; omega
        · rw [hc] at hu
          have HZ : Hid (raddR l (ex, ec, esy) = ([], 330)) := Lib.hid (by rw [HXX.out, if_pos (HTW.out (by rw [tw_parts]; simp only [hx, hc]; rfl))])
          clear hc
          rw [HZ.out]
          go_wp2_with fail
          go_quiet (fail)
          go_wp2_with fail
          go_ret2
          exact RdPost.none_ 330 (hb1.trans ((below_drewN hb _).mono hws))
    · obtain rfl : k = l.length := by omega
      obtain ⟨k0, k1, k2⟩ := box_cellsT (hbk.later hb)
      have HTN := Lib.hid (tw_none hno); clear hno
      have HROW := Lib.hid hrow; clear hrow
      have HB := Lib.hid hb
      -- the list so far, whole at last
      have HCL := Lib.hid (fun W hr => rclash_any l (ex, ec, esy) A c W (by omega) hr)
      cases hany : (l.any fun o => clashL o (ex, ec, esy))
      all_goals
        have HK := Lib.hid hany; clear hany
        rw [HK.out] at HCL
        rcases Nat.lt_or_ge (atL l (ex, ec, esy)) l.length with hat | hat
        · rw [decide_eq_true hat] at hp
          subst hp
          have HPI := Lib.hid (putK_in hat)
          clear hat
          obtain ⟨A7, c7, hv7, hc7, hr7⟩ := own_out HROW.out
          rw [HPI.out] at hc7 hr7
          have HRR := Lib.hid hr7; clear hr7
          go_wp2_with fail
          go_at_call 51; refine ((HCL.out) _ ((HR.out).later (hb1.trans ((HB.out).mono hws)))).mono ?_; rintro e' w8 ⟨rfl, hb8⟩
          first
          | (have HZ : Hid (raddR l (ex, ec, esy) = ([], 331)) := Lib.hid (by rw [HXX.out, if_neg (by rw [HTN.out]; exact Bool.false_ne_true), if_pos HK.out])
             go_wp2_with fail
             go_ret2
             rw [HZ.out]
             exact RdPost.none_ 331 (below_then (hb1.trans ((HB.out).mono hws)) hb8))
          | (by_cases h100 : l.length = 100
             · have HZ : Hid (raddR l (ex, ec, esy) = ([], 5)) := Lib.hid (by rw [HXX.out, if_neg (by rw [HTN.out]; exact Bool.false_ne_true), if_neg (by rw [HK.out]; exact Bool.false_ne_true), if_pos h100])
               have hq : ((l.length : Int) == 100) = true := by rw [beq_iff_eq]; omega
               clear h100
               go_wp2_with fail
               go_ret2
               rw [HZ.out]
               exact RdPost.none_ 5 (below_then (hb1.trans ((HB.out).mono hws)) hb8)
             · have HZ := Lib.hid (show raddR l (ex, ec, esy) = (l.take (atL l (ex, ec, esy)) ++ (ex, ec, esy) :: l.drop (atL l (ex, ec, esy)), 0) by rw [HXX.out, if_neg (by rw [HTN.out]; exact Bool.false_ne_true), if_neg (by rw [HK.out]; exact Bool.false_ne_true), if_neg h100])
               have hq : ((l.length : Int) == 100) = false := by rw [beq_eq_false_iff_ne]; omega
               clear h100
               have HV7 := Lib.hid hv7; clear hv7
               go_wp2_with fail
               go_ret2
               rw [HZ.out]
               simp only [HV7.out]
               exact ⟨A7, c7, (by first | (rw [HPI.out]; done) | (rw [HPI.out]; rfl)), hc7, ((Reads.of_own HRR.out).later hb8), below_then (hb1.trans ((HB.out).mono hws)) hb8⟩)
        · rw [decide_eq_false (by omega)] at hp
          subst hp
          have HPI := Lib.hid (putK_end (l := l) (e := (ex, ec, esy)) (by have := HAT.out; omega))
          clear hat
          go_wp2_with (at_builtin; refine wpList_append_own _ rfl _ _ 42 rfl w3.heap.size 46 i0 (.agg #[.string ⟨#[]⟩, .int .u8 0, .string ⟨#[]⟩]) 3 40 Tryz.underlying42 hi hz0 hz1 hz2 rfl (by decide) _ _ _ rfl ((HROW.out).alloc _) ⟨wr.heap.size, 0, none⟩ 1 1 [str ex, byteV ec, str esy] rfl rfl ?a9 ?b9 ?c9 ?d9 ?e9 ?_)
          try (case a9 => first | exact three_new _ _ rfl _ _ _ _ | exact three_new _ _ (by simp) _ _ _ _ | exact three_new0 _ _ rfl _ _ _ _ | exact three_new0 _ _ (by simp) _ _ _ _)
          case b9 => simp [Value.oneCell']
          case c9 => (unfold maxLen; omega)
          case d9 => omega
          case e9 => (have := (HB.out).size; first | omega | (simp; omega))
          intro v5 w5 hown9 hgrow9 _
          have HG9 := Lib.hid (((HB.out).alloc (by have := (HB.out).size; first | omega | (simp; omega)) (.cells #[str ex, byteV ec, str esy] 46)).grown hgrow9 (by have := (HB.out).size; first | omega | (simp; omega)) (own_ge (HROW.out)))
          have HR9 := Lib.hid (rowE_put (f := (ex, ec, esy)) hown9 (by simp))
          clear hgrow9 hown9
          replace k0 := ((HG9.out).cell (p := ⟨w.heap.size, _, none⟩) (by omega)).trans (((HB.out).cell (p := ⟨w.heap.size, _, none⟩) (by omega)).symm.trans k0)
          replace k1 := ((HG9.out).cell (p := ⟨w.heap.size, _, none⟩) (by omega)).trans (((HB.out).cell (p := ⟨w.heap.size, _, none⟩) (by omega)).symm.trans k1)
          replace k2 := ((HG9.out).cell (p := ⟨w.heap.size, _, none⟩) (by omega)).trans (((HB.out).cell (p := ⟨w.heap.size, _, none⟩) (by omega)).symm.trans k2)
          obtain ⟨A7, c7, hv7, hc7, hr7⟩ := own_out HR9.out
          rw [HPI.out] at hc7 hr7
          have HRR := Lib.hid hr7; clear hr7
          go_wp2_with fail
          go_at_call 51; refine ((HCL.out) _ ((HR.out).later (hb1.trans ((HG9.out).mono hws)))).mono ?_; rintro e' w8 ⟨rfl, hb8⟩
          first
          | (have HZ : Hid (raddR l (ex, ec, esy) = ([], 331)) := Lib.hid (by rw [HXX.out, if_neg (by rw [HTN.out]; exact Bool.false_ne_true), if_pos HK.out])
             go_wp2_with fail
             go_ret2
             rw [HZ.out]
             exact RdPost.none_ 331 (below_then (hb1.trans ((HG9.out).mono hws)) hb8))
          | (by_cases h100 : l.length = 100
             · have HZ : Hid (raddR l (ex, ec, esy) = ([], 5)) := Lib.hid (by rw [HXX.out, if_neg (by rw [HTN.out]; exact Bool.false_ne_true), if_neg (by rw [HK.out]; exact Bool.false_ne_true), if_pos h100])
               have hq : ((l.length : Int) == 100) = true := by rw [beq_iff_eq]; omega
               clear h100
               go_wp2_with fail
               go_ret2
               rw [HZ.out]
               exact RdPost.none_ 5 (below_then (hb1.trans ((HG9.out).mono hws)) hb8)
             · have HZ := Lib.hid (show raddR l (ex, ec, esy) = (l.take (atL l (ex, ec, esy)) ++ (ex, ec, esy) :: l.drop (atL l (ex, ec, esy)), 0) by rw [HXX.out, if_neg (by rw [HTN.out]; exact Bool.false_ne_true), if_neg (by rw [HK.out]; exact Bool.false_ne_true), if_neg h100])
               have hq : ((l.length : Int) == 100) = false := by rw [beq_eq_false_iff_ne]; omega
               clear h100
               have HV7 := Lib.hid hv7; clear hv7
               go_wp2_with fail
               go_ret2
               rw [HZ.out]
               simp only [HV7.out]
               exact ⟨A7, c7, (by first | (rw [HPI.out]; done) | (rw [HPI.out]; rfl)), hc7, ((Reads.of_own HRR.out).later hb8), below_then (hb1.trans ((HG9.out).mono hws)) hb8⟩)
theorem radd_any (l : List Ent) (e : Ent) (A : Option Addr) (c : Nat) (w : World) (hl : l.length ≤ 1048576) (hw : ∀ e ∈ l, e.1.length ≤ 1048576 ∧ e.2.2.length ≤ 1048576) (hx : e.1.length ≤ 1048576 ∧ e.2.2.length ≤ 1048576) (hr : Reads w w.heap.size 3 A l.length (flat l)) :
    Calls Tryz.prog 20 #[.slice A l.length c, entV e] w (RdPost w (addR l e).1 (addR l e).2) := by
  rw [← radd_eq]
  cases hv : validL l
  · exact radd_2 l e A c w hl hw hx hr (by rw [hv]; rfl)
  · cases hrt : rightL e
    · exact radd_2 l e A c w hl hw hx hr (by rw [hv, hrt]; rfl)
    · exact radd_1 l e A c w ((valid_iff l).1 hv).1 hw hx hr hv hrt
end Go.Proofs.YtbbgieopcmjoeaaGreatDoor
