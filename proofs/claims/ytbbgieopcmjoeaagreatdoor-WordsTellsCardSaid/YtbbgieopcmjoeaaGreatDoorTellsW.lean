/- lyceumlaw33.tells: the program's lexicons and the reference's answer alike, whatever the lexicon. -/
import Derived.Test.YtbbgieopcmjoeaaGreatDoorRefK
import Derived.Test.YtbbgieopcmjoeaaGreatDoorSameE
namespace Go.Proofs.YtbbgieopcmjoeaaGreatDoor
open Go.RowKit
/-- An element of a row of the call's own: it may be written, and the row stays one. -/
theorem own_at {W : World} {B T n c k : Nat} {A : Option Addr} {xs : List Value} (h : W.ownsRow B T 3 (.slice A n c) n xs) (hk : k < n) :
    ∃ g, A = some ⟨g, 0, none⟩ ∧ B ≤ g ∧ g < W.heap.size ∧ (∃ u, W.cell? ⟨g, k * 3, none⟩ = some u) ∧ W.frozen? ⟨g, k * 3, none⟩ = false ∧ ∀ u, ∃ ys, (W.setCell ⟨g, k * 3, none⟩ u).ownsRow B T 3 (.slice A n c) n ys := by
  rcases h.2 with ⟨-, h0⟩ | ⟨g, cap, cur, hv, hg, hh, hnc, hcm, hsz, hrow⟩
  · omega
  · simp only [Value.slice.injEq] at hv
    obtain ⟨rfl, -, rfl⟩ := hv
    have hb : Blk W g T cur := hh
    have hlt : k * 3 < cur.size := by omega
    refine ⟨g, rfl, hg, hb.lt, ⟨cur[k * 3], ?_⟩, hb.frozen _, fun u => ⟨(cur.setIfInBounds (k * 3) u).toList.take (n * 3), ?_⟩⟩
    · rw [hb.cell]; exact Array.getElem?_eq_getElem hlt
    · refine ⟨?_, .inr ⟨g, c, cur.setIfInBounds (k * 3) u, rfl, hg, hb.set_ _ _, hnc, hcm, by simpa using hsz, rfl⟩⟩
      rw [List.length_take]; simp; omega
theorem own_other {W : World} {B T n c g o : Nat} {A : Option Addr} {xs : List Value} {u : Value} (h : W.ownsRow B T 3 (.slice A n c) n xs) (hg : g < B) : (W.setCell ⟨g, o, none⟩ u).ownsRow B T 3 (.slice A n c) n xs := ownsRow_setCell_below h hg u
abbrev QE (f : Nat) (l : List Ent) (args : List Value) (P : World → Ending → World → Prop) : Prop := ∀ (A : Option Addr) (c : Nat) (W : World), l.length ≤ c → Reads W W.heap.size 3 A l.length (flat l) → Calls Tryz.prog f (.slice A l.length c :: args).toArray W (P W)
set_option maxRecDepth 100000 in
set_option maxHeartbeats 12800000 in
theorem tells_core (l La Lc : List Ent) (F : List (Nat × Bool)) (ea er ef : Int) (vv rr : Bool) (ex : List UInt8) (ec : UInt8) (esy tok : List UInt8) (A : Option Addr) (c : Nat) (w : World) (hl : l.length ≤ 1000) (hLa : La.length ≤ 1001) (hLc : Lc.length ≤ 1001) (hF : F.length ≤ 1001) (hr : Reads w w.heap.size 3 A l.length (flat l))
    (hadd : QE 13 l [entV (ex, ec, esy)] (fun W => OwnPost W La ea))
    (hradd : QE 20 l [entV (ex, ec, esy)] (fun W => RdPost W La ea))
    (hrem : QE 14 l [str tok, byteV ec] (fun W => OwnPost W Lc er))
    (hrrem : QE 21 l [str tok, byteV ec] (fun W => RdPost W Lc er))
    (hlook : QE 15 l [str tok] (fun W => LookPost W F ef))
    (hrlook : QE 22 l [str tok] (fun W => LookPost W F ef))
    (hval : QE 17 l [] (fun W e w' => e = .returned (.bool vv) ∧ Below W.heap.size W w'))
    (hrval : QE 23 l [] (fun W e w' => e = .returned (.bool vv) ∧ Below W.heap.size W w'))
    (hrt : ∀ W : World, Calls Tryz.prog 24 #[entV (ex, ec, esy)] W (fun e w' => e = .returned (.bool rr) ∧ Below W.heap.size W w'))
    (hrrt : ∀ W : World, Calls Tryz.prog 25 #[entV (ex, ec, esy)] W (fun e w' => e = .returned (.bool rr) ∧ Below W.heap.size W w')) :
    Calls Tryz.prog 7 #[.slice A l.length c, entV (ex, ec, esy), str tok] w fun e w' => e = .returned (.bool true) ∧ Below w.heap.size w w' := by
  have HR := Lib.hid hr; clear hr
  have HADD := Lib.hid hadd; have HRADD := Lib.hid hradd; have HREM := Lib.hid hrem; have HRREM := Lib.hid hrrem; have HLOOK := Lib.hid hlook; have HRLOOK := Lib.hid hrlook
  have HVAL := Lib.hid hval; have HRVAL := Lib.hid hrval; have HRT := Lib.hid hrt; have HRRT := Lib.hid hrrt
  clear hadd hradd hrem hrrem hlook hrlook hval hrval hrt hrrt
  have hbox : Hid (∀ W : World, W = w.alloc (.cells #[str ex, byteV ec, str esy] 24) → Blk W w.heap.size 24 #[str ex, byteV ec, str esy] ∧ Below w.heap.size w W) := fun W h => by subst h; exact ⟨Blk.new _ _ _, (Below.refl _ _).alloc (Nat.le_refl _) _⟩
  go_enter Tryz.func7, Tryz.ntmps7
  go_wp2_with fail
  obtain ⟨W1, hW1⟩ : ∃ W1 : World, W1 = w.alloc (.cells #[str ex, byteV ec, str esy] 24) := ⟨_, rfl⟩
  obtain ⟨hbk, hb1⟩ := hbox.out W1 hW1
  rw [← hW1]
  clear hW1
  go_at_call 19; refine (given_any l A c _ (by omega) ((HR.out).later hb1)).mono ?_; rintro e w2 ⟨A2, c2, rfl, hc2, ho2, hb2⟩
  have HG := Lib.hid (Reads.of_own ho2)
  replace hbk := hbk.later hb2
  replace hb1 := below_then hb1 hb2
  clear ho2 hb2
  go_wp2_with fail
  go_at_call 18; refine (taken_any l A2 c2 _ (by omega) HG.out).mono ?_; rintro e w3 ⟨A3, c3, rfl, hc3, ho3, hb3⟩
  have HI3 := Lib.hid (Reads.of_own ho3)
  replace hbk := hbk.later hb3
  replace hb1 := below_then hb1 hb3
  clear ho3 hb3 HG
  go_wp2_with fail
  go_at_call 19; refine (given_any l A c _ (by omega) ((HR.out).later hb1)).mono ?_; rintro e w4 ⟨A4, c4, rfl, hc4, ho4, hb4⟩
  have HI4 := Lib.hid ((HI3.out).later hb4)
  have HR4 := Lib.hid (Reads.of_own ho4)
  replace hbk := hbk.later hb4
  replace hb1 := below_then hb1 hb4
  clear ho4 hb4 HI3
  obtain ⟨k0, k1, k2⟩ := box_cellsT hbk
  go_wp2_with fail
  go_at_call 13; refine ((HADD.out) _ _ _ hc3 HI4.out).mono ?_; rintro e w5 ⟨A5, c5, rfl, hc5, ho5, hb5⟩
  have HI5 := Lib.hid ((HI4.out).later hb5)
  have HR5 := Lib.hid ((HR4.out).later hb5)
  have HA5 := Lib.hid ho5
  have HB5 := Lib.hid hb5
  replace hbk := hbk.later hb5
  have hb15 := below_then hb1 hb5
  have HS4 := Lib.hid (hb1.size)
  clear ho5 hb5 k0 k1 k2 HR4
  obtain ⟨k0, k1, k2⟩ := box_cellsT hbk
  go_wp2_with fail
  go_at_call 20; refine ((HRADD.out) _ _ _ hc4 HR5.out).mono ?_; rintro e w6 ⟨A6, c6, rfl, hc6, hr6, hb6⟩
  have HI6 := Lib.hid ((HI5.out).later hb6)
  have HR6 := Lib.hid ((HR5.out).later hb6)
  have HA6 := Lib.hid (row_later (HA5.out) hb6)
  have HBR6 := Lib.hid hr6
  have HB6 := Lib.hid (below_then HB5.out hb6)
  have HZ6 := Lib.hid (Nat.le_trans HB5.out.size hb6.size)
  replace hbk := hbk.later hb6
  replace hb15 := below_then hb15 hb6
  clear hr6 hb6 k0 k1 k2 HI5 HR5 HB5
  obtain ⟨k0, k1, k2⟩ := box_cellsT hbk
  go_wp2_with fail
  go_at_call 14; refine ((HREM.out) _ _ _ hc3 HI6.out).mono ?_; rintro e w7 ⟨A7, c7, rfl, hc7, ho7, hb7⟩
  have HI7 := Lib.hid ((HI6.out).later hb7)
  have HR7 := Lib.hid ((HR6.out).later hb7)
  have HA7 := Lib.hid (row_later (HA6.out) hb7)
  have HBR7 := Lib.hid ((HBR6.out).later hb7)
  have HC7 := Lib.hid ho7
  have HB7 := Lib.hid (HB6.out.trans (hb7.mono HZ6.out))
  -- a's row lies below c's
  have HAC : Hid (∀ g, (Value.slice A5 La.length c5).ownBlock = some g → g < w6.heap.size) := Lib.hid (own_ltE HA6.out)
  replace hbk := hbk.later hb7
  replace hb15 := below_then hb15 hb7
  clear ho7 hb7 k0 k1 k2 HI6 HR6 HA6 HBR6 HB6
  obtain ⟨k0, k1, k2⟩ := box_cellsT hbk
  go_wp2_with fail
  go_at_call 21; refine ((HRREM.out) _ _ _ hc4 HR7.out).mono ?_; rintro e w8 ⟨A8, c8, rfl, hc8, hr8, hb8⟩
  have HI8 := Lib.hid ((HI7.out).later hb8)
  have HR8 := Lib.hid ((HR7.out).later hb8)
  have HA8 := Lib.hid (row_later (HA7.out) hb8)
  have HBR8 := Lib.hid ((HBR7.out).later hb8)
  have HC8 := Lib.hid (row_later (HC7.out) hb8)
  have HDR8 := Lib.hid hr8
  have HB8 := Lib.hid (HB7.out.trans (hb8.mono (by have := HZ6.out; have := HB7.out.size; omega)))
  replace hbk := hbk.later hb8
  replace hb15 := below_then hb15 hb8
  clear hr8 hb8 k0 k1 k2 HI7 HR7 HA7 HBR7 HC7 HB7
  go_wp2_with fail
  go_at_call 15; refine ((HLOOK.out) _ _ _ hc3 HI8.out).mono ?_; rintro e w9 ⟨A9, c9, rfl, hc9, hr9, hb9⟩
  have HI9 := Lib.hid ((HI8.out).later hb9)
  have HR9 := Lib.hid ((HR8.out).later hb9)
  have HA9 := Lib.hid (row_later (HA8.out) hb9)
  have HBR9 := Lib.hid ((HBR8.out).later hb9)
  have HC9 := Lib.hid (row_later (HC8.out) hb9)
  have HDR9 := Lib.hid ((HDR8.out).later hb9)
  have HF9 := Lib.hid hr9
  have HB9 := Lib.hid (HB8.out.trans (hb9.mono (by have := HB8.out.size; omega)))
  replace hbk := hbk.later hb9
  replace hb15 := below_then hb15 hb9
  clear hr9 hb9 HI8 HR8 HA8 HBR8 HC8 HDR8 HB8
  go_wp2_with fail
  go_at_call 22; refine ((HRLOOK.out) _ _ _ hc4 HR9.out).mono ?_; rintro e w10 ⟨A10, c10, rfl, hc10, hr10, hb10⟩
  have HI := Lib.hid ((HI9.out).later hb10)
  have HRR := Lib.hid ((HR9.out).later hb10)
  have HA := Lib.hid (row_later (HA9.out) hb10)
  have HBR := Lib.hid ((HBR9.out).later hb10)
  have HC := Lib.hid (row_later (HC9.out) hb10)
  have HDR := Lib.hid ((HDR9.out).later hb10)
  have HF1 := Lib.hid ((HF9.out).later hb10)
  have HF2 := Lib.hid hr10
  have HB10 := Lib.hid (HB9.out.trans (hb10.mono (by have := HB9.out.size; omega)))
  replace hbk := hbk.later hb10
  replace hb15 := below_then hb15 hb10
  clear hr10 hb10 HI9 HR9 HA9 HBR9 HC9 HDR9 HF9 HB9
  have hS := (⟨hbk.cell 0, hbk.cell 1, hbk.cell 2, hbk.lt, Below.refl _ _⟩ : w10.cell? ⟨w.heap.size, 0, none⟩ = some (str ex) ∧ w10.cell? ⟨w.heap.size, 1, none⟩ = some (byteV ec) ∧ w10.cell? ⟨w.heap.size, 2, none⟩ = some (str esy) ∧ w.heap.size < w10.heap.size ∧ Below w10.heap.size w10 w10)
  have HB1 := Lib.hid hb15
  have HB0 := Lib.hid hb1
  clear hbk hb15 hb1
  go_wp2_with fail
  refine wp_region_held_drew (S := fun W => W.cell? ⟨w.heap.size, 0, none⟩ = some (str ex) ∧ W.cell? ⟨w.heap.size, 1, none⟩ = some (byteV ec) ∧ W.cell? ⟨w.heap.size, 2, none⟩ = some (str esy) ∧ w.heap.size < W.heap.size ∧ Below w10.heap.size w10 W) (by kernel_rfl) (by exact start3 (e := (ex, ec, esy)) hS) (fun hHeld => ?_)
  refine wpAnyH_take (i := 0) (oi := { dst := some 69, op := Op.move (Operand.tmp 7), type := 22, pos := "law.go:85", after := #[], guard := none }) (v := ?v1_0) (by kernel_rfl) (by kernel_rfl) (by kernel_rfl) (by kernel_rfl) (fun _ _ _ h => h) (Or.inl ⟨by kernel_rfl, ?h1_0⟩) hHeld ?r1_0
  case h1_0 => (intro w hSw; (try dsimp only at hSw); go_simp; try with_reducible rfl)
  try simp only [Act.put, List.setIfInBounds_toArray, List.set_cons_zero, List.set_cons_succ]
  refine wpAnyH_take (i := 2) (oi := { dst := some 71, op := Op.move (Operand.tmp 8), type := 42, pos := "law.go:85", after := #[], guard := none }) (v := ?v1_2) (by kernel_rfl) (by kernel_rfl) (by kernel_rfl) (by kernel_rfl) (fun _ _ _ h => h) (Or.inl ⟨by kernel_rfl, ?h1_2⟩) hHeld ?r1_2
  case h1_2 => (intro w hSw; (try dsimp only at hSw); go_simp; try with_reducible rfl)
  try simp only [Act.put, List.setIfInBounds_toArray, List.set_cons_zero, List.set_cons_succ]
  refine wpAnyH_ready (rs := [1]) (by kernel_rfl) (by simp) ?_
  refine AllReadyH.cons (i := 1) (o := { dst := some 70, op := Op.call { callee := Callee.value (Operand.func 17), args := #[Operand.tmp 69], argTypes := #[22] }, type := 4, pos := "law.go:85", after := #[{ on := 0, ground := Ground.data }], guard := none }) rfl (fun K hK => ?_) AllReadyH.nil
  go_simp
  refine ((HVAL.out) _ _ _ hc3 ((HI.out).later hHeld.2.2.2.2)).mono ?_
  rintro e' v1 ⟨rfl, hd1⟩
  go_wp2_with fail
  refine hK.out _ _ (by exact keep3 (e := (ex, ec, esy)) (by assumption) (by assumption)) (fun hHeld => ?_)
  clear hK K
  try simp only [Act.put, List.setIfInBounds_toArray, List.set_cons_zero, List.set_cons_succ]
  refine wpAnyH_ready (rs := [3]) (by kernel_rfl) (by simp) ?_
  refine AllReadyH.cons (i := 3) (o := { dst := some 72, op := Op.call { callee := Callee.value (Operand.func 23), args := #[Operand.tmp 71], argTypes := #[42] }, type := 4, pos := "law.go:85", after := #[{ on := 2, ground := Ground.data }, { on := 1, ground := Ground.chain }], guard := none }) rfl (fun K hK => ?_) AllReadyH.nil
  go_simp
  refine ((HRVAL.out) _ _ _ hc4 ((HRR.out).later hHeld.2.2.2.2)).mono ?_
  rintro e' v2 ⟨rfl, hd2⟩
  go_wp2_with fail
  refine hK.out _ _ (by exact keep3 (e := (ex, ec, esy)) (by assumption) (by assumption)) (fun hHeld => ?_)
  clear hK K
  try simp only [Act.put, List.setIfInBounds_toArray, List.set_cons_zero, List.set_cons_succ]
  refine wpAnyH_take (i := 4) (oi := { dst := some 73, op := Op.binOp BinOp.neq 4 (Operand.tmp 70) (Operand.tmp 72) 4, type := 4, pos := "law.go:85", after := #[{ on := 1, ground := Ground.data }, { on := 3, ground := Ground.data }], guard := none }) (v := ?v1_4) (by kernel_rfl) (by kernel_rfl) (by kernel_rfl) (by kernel_rfl) (fun _ _ _ h => h) (Or.inl ⟨by kernel_rfl, ?h1_4⟩) hHeld ?r1_4
  case h1_4 => (intro w hSw; (try dsimp only at hSw); go_simp; try with_reducible rfl)
  try simp only [Act.put, List.setIfInBounds_toArray, List.set_cons_zero, List.set_cons_succ]
  refine wpAnyH_take (i := 5) (oi := { dst := some 74, op := Op.move (Operand.tmp 73), type := 4, pos := "law.go:85", after := #[{ on := 4, ground := Ground.data }, { on := 3, ground := Ground.chain }], guard := none }) (v := ?v1_5) (by kernel_rfl) (by kernel_rfl) (by kernel_rfl) (by kernel_rfl) (fun _ _ _ h => h) (Or.inl ⟨by kernel_rfl, ?h1_5⟩) hHeld ?r1_5
  case h1_5 => (intro w hSw; (try dsimp only at hSw); go_simp; try with_reducible rfl)
  try simp only [Act.put, List.setIfInBounds_toArray, List.set_cons_zero, List.set_cons_succ]
  refine wpAnyH_take (i := 6) (oi := { dst := some 75, op := Op.load 24 (Operand.tmp 4), type := 24, pos := "law.go:85", after := #[{ on := 5, ground := Ground.guard }], guard := some (5, false) }) (v := ?v1_6) (by kernel_rfl) (by kernel_rfl) (by kernel_rfl) (by kernel_rfl) (fun _ _ _ h => h) (Or.inl ⟨by kernel_rfl, ?h1_6⟩) hHeld ?r1_6
  case h1_6 => (intro w hSw; (try dsimp only at hSw); go_simp; try with_reducible rfl)
  try simp only [Act.put, List.setIfInBounds_toArray, List.set_cons_zero, List.set_cons_succ]
  refine wpAnyH_take (i := 8) (oi := { dst := some 77, op := Op.load 24 (Operand.tmp 4), type := 24, pos := "law.go:85", after := #[{ on := 5, ground := Ground.guard }], guard := some (5, false) }) (v := ?v1_8) (by kernel_rfl) (by kernel_rfl) (by kernel_rfl) (by kernel_rfl) (fun _ _ _ h => h) (Or.inl ⟨by kernel_rfl, ?h1_8⟩) hHeld ?r1_8
  case h1_8 => (intro w hSw; (try dsimp only at hSw); go_simp; try with_reducible rfl)
  try simp only [Act.put, List.setIfInBounds_toArray, List.set_cons_zero, List.set_cons_succ]
  refine wpAnyH_ready (rs := [7]) (by kernel_rfl) (by simp) ?_
  refine AllReadyH.cons (i := 7) (o := { dst := some 76, op := Op.call { callee := Callee.value (Operand.func 24), args := #[Operand.tmp 75], argTypes := #[24] }, type := 4, pos := "law.go:85", after := #[{ on := 6, ground := Ground.data }, { on := 5, ground := Ground.chain }, { on := 5, ground := Ground.guard }], guard := some (5, false) }) rfl (fun K hK => ?_) AllReadyH.nil
  go_simp
  refine ((HRT.out) _).mono ?_
  rintro e' v3 ⟨rfl, hd3⟩
  go_wp2_with fail
  refine hK.out _ _ (by exact keep3 (e := (ex, ec, esy)) (by assumption) (by assumption)) (fun hHeld => ?_)
  clear hK K
  try simp only [Act.put, List.setIfInBounds_toArray, List.set_cons_zero, List.set_cons_succ]
  refine wpAnyH_ready (rs := [9]) (by kernel_rfl) (by simp) ?_
  refine AllReadyH.cons (i := 9) (o := { dst := some 78, op := Op.call { callee := Callee.value (Operand.func 25), args := #[Operand.tmp 77], argTypes := #[46] }, type := 4, pos := "law.go:85", after := #[{ on := 8, ground := Ground.data }, { on := 7, ground := Ground.chain }, { on := 5, ground := Ground.guard }], guard := some (5, false) }) rfl (fun K hK => ?_) AllReadyH.nil
  go_simp
  refine ((HRRT.out) _).mono ?_
  rintro e' v4 ⟨rfl, hd4⟩
  go_wp2_with fail
  refine hK.out _ _ (by exact keep3 (e := (ex, ec, esy)) (by assumption) (by assumption)) (fun hHeld => ?_)
  clear hK K
  try simp only [Act.put, List.setIfInBounds_toArray, List.set_cons_zero, List.set_cons_succ]
  refine wpAnyH_take (i := 10) (oi := { dst := some 79, op := Op.binOp BinOp.neq 4 (Operand.tmp 76) (Operand.tmp 78) 4, type := 4, pos := "law.go:85", after := #[{ on := 7, ground := Ground.data }, { on := 9, ground := Ground.data }, { on := 5, ground := Ground.guard }], guard := some (5, false) }) (v := ?v1_10) (by kernel_rfl) (by kernel_rfl) (by kernel_rfl) (by kernel_rfl) (fun _ _ _ h => h) (Or.inl ⟨by kernel_rfl, ?h1_10⟩) hHeld ?r1_10
  case h1_10 => (intro w hSw; (try dsimp only at hSw); go_simp; try with_reducible rfl)
  try simp only [Act.put, List.setIfInBounds_toArray, List.set_cons_zero, List.set_cons_succ]
  refine wpAnyH_take (i := 11) (oi := { dst := some 80, op := Op.pick (Operand.tmp 74) (Operand.const (Value.bool true)) (Operand.tmp 79), type := 4, pos := "law.go:85", after := #[{ on := 5, ground := Ground.data }, { on := 10, ground := Ground.data }], guard := none }) (v := ?v1_11) (by kernel_rfl) (by kernel_rfl) (by kernel_rfl) (by kernel_rfl) (fun _ _ _ h => h) (Or.inl ⟨by kernel_rfl, ?h1_11⟩) hHeld ?r1_11
  case h1_11 => (intro w hSw; (try dsimp only at hSw); go_simp; try with_reducible rfl)
  try simp only [Act.put, List.setIfInBounds_toArray, List.set_cons_zero, List.set_cons_succ]
  refine wpAnyH_take (i := 12) (oi := { dst := some 81, op := Op.move (Operand.tmp 80), type := 4, pos := "law.go:85", after := #[{ on := 11, ground := Ground.data }, { on := 9, ground := Ground.chain }], guard := none }) (v := ?v1_12) (by kernel_rfl) (by kernel_rfl) (by kernel_rfl) (by kernel_rfl) (fun _ _ _ h => h) (Or.inl ⟨by kernel_rfl, ?h1_12⟩) hHeld ?r1_12
  case h1_12 => (intro w hSw; (try dsimp only at hSw); go_simp; try with_reducible rfl)
  try simp only [Act.put, List.setIfInBounds_toArray, List.set_cons_zero, List.set_cons_succ]
  refine wpAnyH_take (i := 13) (oi := { dst := some 82, op := Op.move (Operand.tmp 10), type := 31, pos := "law.go:85", after := #[{ on := 12, ground := Ground.guard }], guard := some (12, false) }) (v := ?v1_13) (by kernel_rfl) (by kernel_rfl) (by kernel_rfl) (by kernel_rfl) (fun _ _ _ h => h) (Or.inl ⟨by kernel_rfl, ?h1_13⟩) hHeld ?r1_13
  case h1_13 => (intro w hSw; (try dsimp only at hSw); go_simp; try with_reducible rfl)
  try simp only [Act.put, List.setIfInBounds_toArray, List.set_cons_zero, List.set_cons_succ]
  refine wpAnyH_take (i := 14) (oi := { dst := some 83, op := Op.move (Operand.tmp 12), type := 3, pos := "law.go:85", after := #[{ on := 12, ground := Ground.guard }], guard := some (12, false) }) (v := ?v1_14) (by kernel_rfl) (by kernel_rfl) (by kernel_rfl) (by kernel_rfl) (fun _ _ _ h => h) (Or.inl ⟨by kernel_rfl, ?h1_14⟩) hHeld ?r1_14
  case h1_14 => (intro w hSw; (try dsimp only at hSw); go_simp; try with_reducible rfl)
  try simp only [Act.put, List.setIfInBounds_toArray, List.set_cons_zero, List.set_cons_succ]
  refine wpAnyH_take (i := 15) (oi := { dst := some 84, op := Op.binOp BinOp.neq 3 (Operand.tmp 82) (Operand.tmp 83) 3, type := 4, pos := "law.go:85", after := #[{ on := 13, ground := Ground.data }, { on := 14, ground := Ground.data }, { on := 12, ground := Ground.guard }], guard := some (12, false) }) (v := ?v1_15) (by kernel_rfl) (by kernel_rfl) (by kernel_rfl) (by kernel_rfl) (fun _ _ _ h => h) (Or.inl ⟨by kernel_rfl, ?h1_15⟩) hHeld ?r1_15
  case h1_15 => (intro w hSw; (try dsimp only at hSw); go_simp; try with_reducible rfl)
  try simp only [Act.put, List.setIfInBounds_toArray, List.set_cons_zero, List.set_cons_succ]
  refine wpAnyH_take (i := 16) (oi := { dst := some 85, op := Op.pick (Operand.tmp 81) (Operand.const (Value.bool true)) (Operand.tmp 84), type := 4, pos := "law.go:85", after := #[{ on := 12, ground := Ground.data }, { on := 15, ground := Ground.data }], guard := none }) (v := ?v1_16) (by kernel_rfl) (by kernel_rfl) (by kernel_rfl) (by kernel_rfl) (fun _ _ _ h => h) (Or.inl ⟨by kernel_rfl, ?h1_16⟩) hHeld ?r1_16
  case h1_16 => (intro w hSw; (try dsimp only at hSw); go_simp; try with_reducible rfl)
  try simp only [Act.put, List.setIfInBounds_toArray, List.set_cons_zero, List.set_cons_succ]
  refine wpAnyH_take (i := 17) (oi := { dst := some 86, op := Op.move (Operand.tmp 85), type := 4, pos := "law.go:85", after := #[{ on := 16, ground := Ground.data }, { on := 12, ground := Ground.chain }], guard := none }) (v := ?v1_17) (by kernel_rfl) (by kernel_rfl) (by kernel_rfl) (by kernel_rfl) (fun _ _ _ h => h) (Or.inl ⟨by kernel_rfl, ?h1_17⟩) hHeld ?r1_17
  case h1_17 => (intro w hSw; (try dsimp only at hSw); go_simp; try with_reducible rfl)
  try simp only [Act.put, List.setIfInBounds_toArray, List.set_cons_zero, List.set_cons_succ]
  refine wpAnyH_take (i := 18) (oi := { dst := some 87, op := Op.move (Operand.tmp 14), type := 31, pos := "law.go:85", after := #[{ on := 17, ground := Ground.guard }], guard := some (17, false) }) (v := ?v1_18) (by kernel_rfl) (by kernel_rfl) (by kernel_rfl) (by kernel_rfl) (fun _ _ _ h => h) (Or.inl ⟨by kernel_rfl, ?h1_18⟩) hHeld ?r1_18
  case h1_18 => (intro w hSw; (try dsimp only at hSw); go_simp; try with_reducible rfl)
  try simp only [Act.put, List.setIfInBounds_toArray, List.set_cons_zero, List.set_cons_succ]
  refine wpAnyH_take (i := 19) (oi := { dst := some 88, op := Op.move (Operand.tmp 16), type := 3, pos := "law.go:85", after := #[{ on := 17, ground := Ground.guard }], guard := some (17, false) }) (v := ?v1_19) (by kernel_rfl) (by kernel_rfl) (by kernel_rfl) (by kernel_rfl) (fun _ _ _ h => h) (Or.inl ⟨by kernel_rfl, ?h1_19⟩) hHeld ?r1_19
  case h1_19 => (intro w hSw; (try dsimp only at hSw); go_simp; try with_reducible rfl)
  try simp only [Act.put, List.setIfInBounds_toArray, List.set_cons_zero, List.set_cons_succ]
  refine wpAnyH_take (i := 20) (oi := { dst := some 89, op := Op.binOp BinOp.neq 3 (Operand.tmp 87) (Operand.tmp 88) 3, type := 4, pos := "law.go:85", after := #[{ on := 18, ground := Ground.data }, { on := 19, ground := Ground.data }, { on := 17, ground := Ground.guard }], guard := some (17, false) }) (v := ?v1_20) (by kernel_rfl) (by kernel_rfl) (by kernel_rfl) (by kernel_rfl) (fun _ _ _ h => h) (Or.inl ⟨by kernel_rfl, ?h1_20⟩) hHeld ?r1_20
  case h1_20 => (intro w hSw; (try dsimp only at hSw); go_simp; try with_reducible rfl)
  try simp only [Act.put, List.setIfInBounds_toArray, List.set_cons_zero, List.set_cons_succ]
  refine wpAnyH_take (i := 21) (oi := { dst := some 90, op := Op.pick (Operand.tmp 86) (Operand.const (Value.bool true)) (Operand.tmp 89), type := 4, pos := "law.go:85", after := #[{ on := 17, ground := Ground.data }, { on := 20, ground := Ground.data }], guard := none }) (v := ?v1_21) (by kernel_rfl) (by kernel_rfl) (by kernel_rfl) (by kernel_rfl) (fun _ _ _ h => h) (Or.inl ⟨by kernel_rfl, ?h1_21⟩) hHeld ?r1_21
  case h1_21 => (intro w hSw; (try dsimp only at hSw); go_simp; try with_reducible rfl)
  try simp only [Act.put, List.setIfInBounds_toArray, List.set_cons_zero, List.set_cons_succ]
  refine wpAnyH_take (i := 22) (oi := { dst := some 91, op := Op.move (Operand.tmp 90), type := 4, pos := "law.go:85", after := #[{ on := 21, ground := Ground.data }, { on := 17, ground := Ground.chain }], guard := none }) (v := ?v1_22) (by kernel_rfl) (by kernel_rfl) (by kernel_rfl) (by kernel_rfl) (fun _ _ _ h => h) (Or.inl ⟨by kernel_rfl, ?h1_22⟩) hHeld ?r1_22
  case h1_22 => (intro w hSw; (try dsimp only at hSw); go_simp; try with_reducible rfl)
  try simp only [Act.put, List.setIfInBounds_toArray, List.set_cons_zero, List.set_cons_succ]
  refine wpAnyH_take (i := 23) (oi := { dst := some 92, op := Op.move (Operand.tmp 18), type := 31, pos := "law.go:85", after := #[{ on := 22, ground := Ground.guard }], guard := some (22, false) }) (v := ?v1_23) (by kernel_rfl) (by kernel_rfl) (by kernel_rfl) (by kernel_rfl) (fun _ _ _ h => h) (Or.inl ⟨by kernel_rfl, ?h1_23⟩) hHeld ?r1_23
  case h1_23 => (intro w hSw; (try dsimp only at hSw); go_simp; try with_reducible rfl)
  try simp only [Act.put, List.setIfInBounds_toArray, List.set_cons_zero, List.set_cons_succ]
  refine wpAnyH_take (i := 24) (oi := { dst := some 93, op := Op.move (Operand.tmp 20), type := 3, pos := "law.go:85", after := #[{ on := 22, ground := Ground.guard }], guard := some (22, false) }) (v := ?v1_24) (by kernel_rfl) (by kernel_rfl) (by kernel_rfl) (by kernel_rfl) (fun _ _ _ h => h) (Or.inl ⟨by kernel_rfl, ?h1_24⟩) hHeld ?r1_24
  case h1_24 => (intro w hSw; (try dsimp only at hSw); go_simp; try with_reducible rfl)
  try simp only [Act.put, List.setIfInBounds_toArray, List.set_cons_zero, List.set_cons_succ]
  refine wpAnyH_take (i := 25) (oi := { dst := some 94, op := Op.binOp BinOp.neq 3 (Operand.tmp 92) (Operand.tmp 93) 3, type := 4, pos := "law.go:85", after := #[{ on := 23, ground := Ground.data }, { on := 24, ground := Ground.data }, { on := 22, ground := Ground.guard }], guard := some (22, false) }) (v := ?v1_25) (by kernel_rfl) (by kernel_rfl) (by kernel_rfl) (by kernel_rfl) (fun _ _ _ h => h) (Or.inl ⟨by kernel_rfl, ?h1_25⟩) hHeld ?r1_25
  case h1_25 => (intro w hSw; (try dsimp only at hSw); go_simp; try with_reducible rfl)
  try simp only [Act.put, List.setIfInBounds_toArray, List.set_cons_zero, List.set_cons_succ]
  refine wpAnyH_take (i := 26) (oi := { dst := some 95, op := Op.pick (Operand.tmp 91) (Operand.const (Value.bool true)) (Operand.tmp 94), type := 4, pos := "law.go:85", after := #[{ on := 22, ground := Ground.data }, { on := 25, ground := Ground.data }], guard := none }) (v := ?v1_26) (by kernel_rfl) (by kernel_rfl) (by kernel_rfl) (by kernel_rfl) (fun _ _ _ h => h) (Or.inl ⟨by kernel_rfl, ?h1_26⟩) hHeld ?r1_26
  case h1_26 => (intro w hSw; (try dsimp only at hSw); go_simp; try with_reducible rfl)
  try simp only [Act.put, List.setIfInBounds_toArray, List.set_cons_zero, List.set_cons_succ]
  refine wpAnyH_take (i := 27) (oi := { dst := some 96, op := Op.move (Operand.tmp 95), type := 4, pos := "law.go:85", after := #[{ on := 26, ground := Ground.data }, { on := 22, ground := Ground.chain }], guard := none }) (v := ?v1_27) (by kernel_rfl) (by kernel_rfl) (by kernel_rfl) (by kernel_rfl) (fun _ _ _ h => h) (Or.inl ⟨by kernel_rfl, ?h1_27⟩) hHeld ?r1_27
  case h1_27 => (intro w hSw; (try dsimp only at hSw); go_simp; try with_reducible rfl)
  try simp only [Act.put, List.setIfInBounds_toArray, List.set_cons_zero, List.set_cons_succ]
  refine wpAnyH_take (i := 28) (oi := { dst := some 97, op := Op.move (Operand.tmp 9), type := 22, pos := "law.go:85", after := #[{ on := 27, ground := Ground.guard }], guard := some (27, false) }) (v := ?v1_28) (by kernel_rfl) (by kernel_rfl) (by kernel_rfl) (by kernel_rfl) (fun _ _ _ h => h) (Or.inl ⟨by kernel_rfl, ?h1_28⟩) hHeld ?r1_28
  case h1_28 => (intro w hSw; (try dsimp only at hSw); go_simp; try with_reducible rfl)
  try simp only [Act.put, List.setIfInBounds_toArray, List.set_cons_zero, List.set_cons_succ]
  refine wpAnyH_take (i := 29) (oi := { dst := some 98, op := Op.move (Operand.tmp 11), type := 42, pos := "law.go:85", after := #[{ on := 27, ground := Ground.guard }], guard := some (27, false) }) (v := ?v1_29) (by kernel_rfl) (by kernel_rfl) (by kernel_rfl) (by kernel_rfl) (fun _ _ _ h => h) (Or.inl ⟨by kernel_rfl, ?h1_29⟩) hHeld ?r1_29
  case h1_29 => (intro w hSw; (try dsimp only at hSw); go_simp; try with_reducible rfl)
  try simp only [Act.put, List.setIfInBounds_toArray, List.set_cons_zero, List.set_cons_succ]
  refine wpAnyH_ready (rs := [30]) (by kernel_rfl) (by simp) ?_
  refine AllReadyH.cons (i := 30) (o := { dst := some 99, op := Op.call { callee := Callee.value (Operand.func 18), args := #[Operand.tmp 98], argTypes := #[42] }, type := 22, pos := "law.go:85", after := #[{ on := 29, ground := Ground.data }, { on := 27, ground := Ground.chain }, { on := 27, ground := Ground.guard }], guard := some (27, false) }) rfl (fun K hK => ?_) AllReadyH.nil
  go_simp
  refine (taken_any La A6 c6 _ (by omega) ((HBR.out).later hHeld.2.2.2.2)).mono ?_
  rintro e' v5 ⟨A11, c11, rfl, hc11, ho11, hd5⟩
  have HT5 := Lib.hid (Reads.of_own ho11)
  clear ho11
  go_wp2_with fail
  refine hK.out _ _ (by exact keep3 (e := (ex, ec, esy)) (by assumption) (by assumption)) (fun hHeld => ?_)
  clear hK K
  try simp only [Act.put, List.setIfInBounds_toArray, List.set_cons_zero, List.set_cons_succ]
  refine wpAnyH_ready (rs := [31]) (by kernel_rfl) (by simp) ?_
  refine AllReadyH.cons (i := 31) (o := { dst := some 100, op := Op.call { callee := Callee.value (Operand.func 16), args := #[Operand.tmp 97, Operand.tmp 99], argTypes := #[22, 22] }, type := 4, pos := "law.go:85", after := #[{ on := 28, ground := Ground.data }, { on := 30, ground := Ground.data }, { on := 30, ground := Ground.chain }, { on := 27, ground := Ground.guard }], guard := some (27, false) }) rfl (fun K hK => ?_) AllReadyH.nil
  go_simp
  refine (sameE_any La La A5 A11 c5 c11 _ (by omega) ((Reads.of_own HA.out).later hHeld.2.2.2.2) HT5.out).mono ?_
  rintro e' v6 ⟨rfl, hd6⟩
  rw [show decide (La = La) = true from decide_eq_true rfl]
  go_wp2_with fail
  refine hK.out _ _ (by exact keep3 (e := (ex, ec, esy)) (by assumption) (by assumption)) (fun hHeld => ?_)
  clear hK K
  try simp only [Act.put, List.setIfInBounds_toArray, List.set_cons_zero, List.set_cons_succ]
  refine wpAnyH_take (i := 32) (oi := { dst := some 101, op := Op.unOp UnOp.not 4 (Operand.tmp 100), type := 4, pos := "law.go:85", after := #[{ on := 31, ground := Ground.data }, { on := 27, ground := Ground.guard }], guard := some (27, false) }) (v := ?v1_32) (by kernel_rfl) (by kernel_rfl) (by kernel_rfl) (by kernel_rfl) (fun _ _ _ h => h) (Or.inl ⟨by kernel_rfl, ?h1_32⟩) hHeld ?r1_32
  case h1_32 => (intro w hSw; (try dsimp only at hSw); go_simp; try with_reducible rfl)
  try simp only [Act.put, List.setIfInBounds_toArray, List.set_cons_zero, List.set_cons_succ]
  refine wpAnyH_take (i := 33) (oi := { dst := some 102, op := Op.pick (Operand.tmp 96) (Operand.const (Value.bool true)) (Operand.tmp 101), type := 4, pos := "law.go:85", after := #[{ on := 27, ground := Ground.data }, { on := 32, ground := Ground.data }], guard := none }) (v := ?v1_33) (by kernel_rfl) (by kernel_rfl) (by kernel_rfl) (by kernel_rfl) (fun _ _ _ h => h) (Or.inl ⟨by kernel_rfl, ?h1_33⟩) hHeld ?r1_33
  case h1_33 => (intro w hSw; (try dsimp only at hSw); go_simp; try with_reducible rfl)
  try simp only [Act.put, List.setIfInBounds_toArray, List.set_cons_zero, List.set_cons_succ]
  refine wpAnyH_take (i := 34) (oi := { dst := some 103, op := Op.move (Operand.tmp 102), type := 4, pos := "law.go:85", after := #[{ on := 33, ground := Ground.data }, { on := 31, ground := Ground.chain }], guard := none }) (v := ?v1_34) (by kernel_rfl) (by kernel_rfl) (by kernel_rfl) (by kernel_rfl) (fun _ _ _ h => h) (Or.inl ⟨by kernel_rfl, ?h1_34⟩) hHeld ?r1_34
  case h1_34 => (intro w hSw; (try dsimp only at hSw); go_simp; try with_reducible rfl)
  try simp only [Act.put, List.setIfInBounds_toArray, List.set_cons_zero, List.set_cons_succ]
  refine wpAnyH_take (i := 35) (oi := { dst := some 104, op := Op.move (Operand.tmp 13), type := 22, pos := "law.go:85", after := #[{ on := 34, ground := Ground.guard }], guard := some (34, false) }) (v := ?v1_35) (by kernel_rfl) (by kernel_rfl) (by kernel_rfl) (by kernel_rfl) (fun _ _ _ h => h) (Or.inl ⟨by kernel_rfl, ?h1_35⟩) hHeld ?r1_35
  case h1_35 => (intro w hSw; (try dsimp only at hSw); go_simp; try with_reducible rfl)
  try simp only [Act.put, List.setIfInBounds_toArray, List.set_cons_zero, List.set_cons_succ]
  refine wpAnyH_take (i := 36) (oi := { dst := some 105, op := Op.move (Operand.tmp 15), type := 42, pos := "law.go:85", after := #[{ on := 34, ground := Ground.guard }], guard := some (34, false) }) (v := ?v1_36) (by kernel_rfl) (by kernel_rfl) (by kernel_rfl) (by kernel_rfl) (fun _ _ _ h => h) (Or.inl ⟨by kernel_rfl, ?h1_36⟩) hHeld ?r1_36
  case h1_36 => (intro w hSw; (try dsimp only at hSw); go_simp; try with_reducible rfl)
  try simp only [Act.put, List.setIfInBounds_toArray, List.set_cons_zero, List.set_cons_succ]
  refine wpAnyH_ready (rs := [37]) (by kernel_rfl) (by simp) ?_
  refine AllReadyH.cons (i := 37) (o := { dst := some 106, op := Op.call { callee := Callee.value (Operand.func 18), args := #[Operand.tmp 105], argTypes := #[42] }, type := 22, pos := "law.go:85", after := #[{ on := 36, ground := Ground.data }, { on := 34, ground := Ground.chain }, { on := 34, ground := Ground.guard }], guard := some (34, false) }) rfl (fun K hK => ?_) AllReadyH.nil
  go_simp
  refine (taken_any Lc A8 c8 _ (by omega) ((HDR.out).later hHeld.2.2.2.2)).mono ?_
  rintro e' v7 ⟨A12, c12, rfl, hc12, ho12, hd7⟩
  have HT7 := Lib.hid (Reads.of_own ho12)
  clear ho12
  go_wp2_with fail
  refine hK.out _ _ (by exact keep3 (e := (ex, ec, esy)) (by assumption) (by assumption)) (fun hHeld => ?_)
  clear hK K
  try simp only [Act.put, List.setIfInBounds_toArray, List.set_cons_zero, List.set_cons_succ]
  refine wpAnyH_ready (rs := [38]) (by kernel_rfl) (by simp) ?_
  refine AllReadyH.cons (i := 38) (o := { dst := some 107, op := Op.call { callee := Callee.value (Operand.func 16), args := #[Operand.tmp 104, Operand.tmp 106], argTypes := #[22, 22] }, type := 4, pos := "law.go:85", after := #[{ on := 35, ground := Ground.data }, { on := 37, ground := Ground.data }, { on := 37, ground := Ground.chain }, { on := 34, ground := Ground.guard }], guard := some (34, false) }) rfl (fun K hK => ?_) AllReadyH.nil
  go_simp
  refine (sameE_any Lc Lc A7 A12 c7 c12 _ (by omega) ((Reads.of_own HC.out).later hHeld.2.2.2.2) HT7.out).mono ?_
  rintro e' v8 ⟨rfl, hd8⟩
  rw [show decide (Lc = Lc) = true from decide_eq_true rfl]
  go_wp2_with fail
  refine hK.out _ _ (by exact keep3 (e := (ex, ec, esy)) (by assumption) (by assumption)) (fun hHeld => ?_)
  clear hK K
  try simp only [Act.put, List.setIfInBounds_toArray, List.set_cons_zero, List.set_cons_succ]
  refine wpAnyH_take (i := 39) (oi := { dst := some 108, op := Op.unOp UnOp.not 4 (Operand.tmp 107), type := 4, pos := "law.go:85", after := #[{ on := 38, ground := Ground.data }, { on := 34, ground := Ground.guard }], guard := some (34, false) }) (v := ?v1_39) (by kernel_rfl) (by kernel_rfl) (by kernel_rfl) (by kernel_rfl) (fun _ _ _ h => h) (Or.inl ⟨by kernel_rfl, ?h1_39⟩) hHeld ?r1_39
  case h1_39 => (intro w hSw; (try dsimp only at hSw); go_simp; try with_reducible rfl)
  try simp only [Act.put, List.setIfInBounds_toArray, List.set_cons_zero, List.set_cons_succ]
  refine wpAnyH_take (i := 40) (oi := { dst := some 109, op := Op.pick (Operand.tmp 103) (Operand.const (Value.bool true)) (Operand.tmp 108), type := 4, pos := "law.go:85", after := #[{ on := 34, ground := Ground.data }, { on := 39, ground := Ground.data }], guard := none }) (v := ?v1_40) (by kernel_rfl) (by kernel_rfl) (by kernel_rfl) (by kernel_rfl) (fun _ _ _ h => h) (Or.inl ⟨by kernel_rfl, ?h1_40⟩) hHeld ?r1_40
  case h1_40 => (intro w hSw; (try dsimp only at hSw); go_simp; try with_reducible rfl)
  try simp only [Act.put, List.setIfInBounds_toArray, List.set_cons_zero, List.set_cons_succ]
  refine wpAnyH_take (i := 41) (oi := { dst := some 110, op := Op.move (Operand.tmp 109), type := 4, pos := "law.go:85", after := #[{ on := 40, ground := Ground.data }, { on := 38, ground := Ground.chain }], guard := none }) (v := ?v1_41) (by kernel_rfl) (by kernel_rfl) (by kernel_rfl) (by kernel_rfl) (fun _ _ _ h => h) (Or.inl ⟨by kernel_rfl, ?h1_41⟩) hHeld ?r1_41
  case h1_41 => (intro w hSw; (try dsimp only at hSw); go_simp; try with_reducible rfl)
  try simp only [Act.put, List.setIfInBounds_toArray, List.set_cons_zero, List.set_cons_succ]
  refine wpAnyH_take (i := 42) (oi := { dst := some 111, op := Op.move (Operand.tmp 17), type := 35, pos := "law.go:85", after := #[{ on := 41, ground := Ground.guard }], guard := some (41, false) }) (v := ?v1_42) (by kernel_rfl) (by kernel_rfl) (by kernel_rfl) (by kernel_rfl) (fun _ _ _ h => h) (Or.inl ⟨by kernel_rfl, ?h1_42⟩) hHeld ?r1_42
  case h1_42 => (intro w hSw; (try dsimp only at hSw); go_simp; try with_reducible rfl)
  try simp only [Act.put, List.setIfInBounds_toArray, List.set_cons_zero, List.set_cons_succ]
  refine wpAnyH_take (i := 43) (oi := { dst := some 112, op := Op.call { callee := Callee.builtin Builtin.len, args := #[Operand.tmp 111], argTypes := #[35] }, type := 3, pos := "law.go:85", after := #[{ on := 42, ground := Ground.data }, { on := 41, ground := Ground.guard }], guard := some (41, false) }) (v := ?v1_43) (by kernel_rfl) (by kernel_rfl) (by kernel_rfl) (by kernel_rfl) (fun _ _ _ h => h) (Or.inl ⟨by kernel_rfl, ?h1_43⟩) hHeld ?r1_43
  case h1_43 => (intro w hSw; (try dsimp only at hSw); go_simp; try with_reducible rfl)
  try simp only [Act.put, List.setIfInBounds_toArray, List.set_cons_zero, List.set_cons_succ]
  refine wpAnyH_take (i := 44) (oi := { dst := some 113, op := Op.move (Operand.tmp 19), type := 48, pos := "law.go:85", after := #[{ on := 41, ground := Ground.guard }], guard := some (41, false) }) (v := ?v1_44) (by kernel_rfl) (by kernel_rfl) (by kernel_rfl) (by kernel_rfl) (fun _ _ _ h => h) (Or.inl ⟨by kernel_rfl, ?h1_44⟩) hHeld ?r1_44
  case h1_44 => (intro w hSw; (try dsimp only at hSw); go_simp; try with_reducible rfl)
  try simp only [Act.put, List.setIfInBounds_toArray, List.set_cons_zero, List.set_cons_succ]
  refine wpAnyH_take (i := 45) (oi := { dst := some 114, op := Op.call { callee := Callee.builtin Builtin.len, args := #[Operand.tmp 113], argTypes := #[48] }, type := 3, pos := "law.go:85", after := #[{ on := 44, ground := Ground.data }, { on := 41, ground := Ground.guard }], guard := some (41, false) }) (v := ?v1_45) (by kernel_rfl) (by kernel_rfl) (by kernel_rfl) (by kernel_rfl) (fun _ _ _ h => h) (Or.inl ⟨by kernel_rfl, ?h1_45⟩) hHeld ?r1_45
  case h1_45 => (intro w hSw; (try dsimp only at hSw); go_simp; try with_reducible rfl)
  try simp only [Act.put, List.setIfInBounds_toArray, List.set_cons_zero, List.set_cons_succ]
  refine wpAnyH_take (i := 46) (oi := { dst := some 115, op := Op.binOp BinOp.neq 3 (Operand.tmp 112) (Operand.tmp 114) 3, type := 4, pos := "law.go:85", after := #[{ on := 43, ground := Ground.data }, { on := 45, ground := Ground.data }, { on := 41, ground := Ground.guard }], guard := some (41, false) }) (v := ?v1_46) (by kernel_rfl) (by kernel_rfl) (by kernel_rfl) (by kernel_rfl) (fun _ _ _ h => h) (Or.inl ⟨by kernel_rfl, ?h1_46⟩) hHeld ?r1_46
  case h1_46 => (intro w hSw; (try dsimp only at hSw); go_simp; try with_reducible rfl)
  try simp only [Act.put, List.setIfInBounds_toArray, List.set_cons_zero, List.set_cons_succ]
  refine wpAnyH_take (i := 47) (oi := { dst := some 116, op := Op.pick (Operand.tmp 110) (Operand.const (Value.bool true)) (Operand.tmp 115), type := 4, pos := "law.go:85", after := #[{ on := 41, ground := Ground.data }, { on := 46, ground := Ground.data }], guard := none }) (v := ?v1_47) (by kernel_rfl) (by kernel_rfl) (by kernel_rfl) (by kernel_rfl) (fun _ _ _ h => h) (Or.inl ⟨by kernel_rfl, ?h1_47⟩) hHeld ?r1_47
  case h1_47 => (intro w hSw; (try dsimp only at hSw); go_simp; try with_reducible rfl)
  try simp only [Act.put, List.setIfInBounds_toArray, List.set_cons_zero, List.set_cons_succ]
  refine wpAnyH_done (by kernel_rfl) ?_ _
  have HH := Lib.hid hHeld.2.2.2.2
  clear hHeld hS
  all_goals go_wp2_with fail
  go_loopw [21] (fun i wr => ∃ k : Nat, k ≤ F.length ∧ i = .int .i64 k ∧ Below w10.heap.size w10 wr) (fun i _ => F.length - (intOf i).toNat)
  case atStart => exact ⟨0, Nat.zero_le _, rfl, HH.out⟩
  case round =>
    obtain ⟨k, hk, rfl, hb⟩ := hrel
    by_cases hlt : k < F.length
    · have hf : F[k]? = some F[k] := List.getElem?_eq_getElem hlt
      obtain ⟨ba, oa, rfl, hBa, a0, a1⟩ := ((HF1.out).later hb).form hlt hf
      obtain ⟨bb, ob, rfl, hBb, b0, b1⟩ := ((HF2.out).later hb).form hlt hf
      generalize F[k] = f at a0 a1 b0 b1 hf
      clear hf
      obtain ⟨p, q⟩ := f
      cases q
      all_goals
        go_wp2_with fail
        go_quiet (fail)
        go_wp2_with fail
        go_roundw
        case rel => exact ⟨k + 1, by omega, by go_num, below_drewN hb _⟩
        case measure => simp [intOf]; omega
    · have HH2 := Lib.hid hb
      have HZ10 := Lib.hid (HB10.out.size)
      clear hb
      go_wp2_with fail
      go_loopw [22] (fun i wr => ∃ k : Nat, k ≤ La.length ∧ i = .int .i64 k ∧ (∃ xs, wr.ownsRow w4.heap.size 24 3 (.slice A5 La.length c5) La.length xs) ∧ (∃ ys, wr.ownsRow w6.heap.size 24 3 (.slice A7 Lc.length c7) Lc.length ys) ∧ Below w4.heap.size w4 wr) (fun i _ => La.length - (intOf i).toNat)
      case atStart => exact ⟨0, Nat.zero_le _, rfl, ⟨_, row_later HA.out HH2.out⟩, ⟨_, row_later HC.out HH2.out⟩, HB10.out.trans (HH2.out.mono HZ10.out)⟩
      case round =>
        obtain ⟨j, hj, rfl, ⟨xs, hxs⟩, ⟨ys, hys⟩, hbb⟩ := hrel
        by_cases hjt : j < La.length
        · obtain ⟨g, hg1, hg2, hg3, ⟨u0, hu0⟩, hfz, hset⟩ := own_at hxs hjt
          have hgl : g < w6.heap.size := HAC.out g (by rw [hg1]; rfl)
          have HSET := Lib.hid (hset (str [45]))
          have HYS := Lib.hid (own_other (g := g) (o := j * 3) (u := str [45]) hys hgl)
          have HBB := Lib.hid (hbb.setCell (p := ⟨g, j * 3, none⟩) hg2 (str [45]))
          rw [hg1] at HSET ⊢
          clear hset hxs hys hbb
          go_wp2_with fail
          go_roundw
          case rel => exact ⟨j + 1, by omega, by go_num, HSET.out, ⟨_, HYS.out⟩, HBB.out⟩
          case measure => simp [intOf]; omega
        · have HYS := Lib.hid hys
          have HBB := Lib.hid hbb
          clear hxs hys hbb
          go_wp2_with fail
          go_loopw [23] (fun i wr => ∃ k : Nat, k ≤ Lc.length ∧ i = .int .i64 k ∧ (∃ ys, wr.ownsRow w6.heap.size 24 3 (.slice A7 Lc.length c7) Lc.length ys) ∧ Below w4.heap.size w4 wr) (fun i _ => Lc.length - (intOf i).toNat)
          case atStart => exact ⟨0, Nat.zero_le _, rfl, ⟨_, HYS.out⟩, HBB.out⟩
          case round =>
            obtain ⟨m, hm, rfl, ⟨zs, hzs⟩, hbc⟩ := hrel
            by_cases hmt : m < Lc.length
            · obtain ⟨g, hg1, hg2, hg3, ⟨u0, hu0⟩, hfz, hset⟩ := own_at hzs hmt
              have HSET := Lib.hid (hset (str [45]))
              have HBC := Lib.hid (hbc.setCell (p := ⟨g, m * 3, none⟩) (Nat.le_trans HZ6.out hg2) (str [45]))
              rw [hg1] at HSET ⊢
              clear hset hzs hbc
              go_wp2_with fail
              go_roundw
              case rel => exact ⟨m + 1, by omega, by go_num, HSET.out, HBC.out⟩
              case measure => simp [intOf]; omega
            · have HBC := Lib.hid hbc
              clear hzs hbc
              go_wp2_with fail
              go_at_call 16; refine (sameE_any l l A3 A c3 c _ (by omega) ((HI4.out).later HBC.out) ((HR.out).later (HB0.out.trans (HBC.out.mono HS4.out)))).mono ?_; rintro e v9 ⟨rfl, hb9⟩; rw [show decide (l = l) = true from decide_eq_true rfl]
              go_wp2_with fail
              go_ret
              exact ⟨rfl, below_then (HB0.out.trans (HBC.out.mono HS4.out)) hb9⟩
end Go.Proofs.YtbbgieopcmjoeaaGreatDoor
