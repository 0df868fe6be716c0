/- lyceumlaw33.tells: the program's lexicons and the reference's answer alike, whatever the lexicon. lyceumlaw33.tells is true of every lexicon; WordsTells: the law's walk. WordsSmall: the law's walk, given its two helpers. lyceumlaw33.entries: true. lyceumlaw33.limits: true. WordsSmall: true, whatever the memory. -/
import Derived.Test.YtbbgieopcmjoeaaGreatDoorRefCK
import Derived.Test.YtbbgieopcmjoeaaGreatDoorSameE
import Derived.Test.YtbbgieopcmjoeaaGreatDoorWritesW
import Derived.ArgAppend
import Derived.Deep.RegionLawGrows
namespace Go.Proofs.YtbbgieopcmjoeaaGreatDoor
open Go.RowKit
/-- An element of a row of the call's own: it may be written, and the row stays one. -/
theorem own_at {W : World} {B T n c k : Nat} {A : Option Addr} {xs : List Value} (h : W.ownsRow B T 3 (.slice A n c) n xs) (hk : k < n) :
    ∃ g, A = some ⟨g, 0, none⟩ ∧ B ≤ g ∧ g < W.heap.size ∧ (∃ u, W.cell? ⟨g, k * 3, none⟩ = some u) ∧ W.frozen? ⟨g, k * 3, none⟩ = false ∧ ∀ u, ∃ ys, (W.setCell ⟨g, k * 3, none⟩ u).ownsRow B T 3 (.slice A n c) n ys := by
  rcases h.2 with ⟨-, h0⟩ | ⟨g, cap, cur, hv, hg, hh, hnc, hcm, hsz, hrow⟩
  · omega
  · simp only [Value.slice.injEq] at hv
    obtain ⟨rfl, -, rfl⟩ := hv
    have hb : Blk W g T cur := hh
    have hlt : k * 3 < cur.size := by omega
    refine ⟨g, rfl, hg, hb.lt, ⟨cur[k * 3], ?_⟩, hb.frozen _, fun u => ⟨(cur.setIfInBounds (k * 3) u).toList.take (n * 3), ?_⟩⟩
    · rw [hb.cell]; exact Array.getElem?_eq_getElem hlt
    · refine ⟨?_, .inr ⟨g, c, cur.setIfInBounds (k * 3) u, rfl, hg, hb.set_ _ _, hnc, hcm, by simpa using hsz, rfl⟩⟩
      rw [List.length_take]; simp; omega
theorem own_other {W : World} {B T n c g o : Nat} {A : Option Addr} {xs : List Value} {u : Value} (h : W.ownsRow B T 3 (.slice A n c) n xs) (hg : g < B) : (W.setCell ⟨g, o, none⟩ u).ownsRow B T 3 (.slice A n c) n xs := ownsRow_setCell_below h hg u
abbrev QE (f : Nat) (l : List Ent) (args : List Value) (P : World → Ending → World → Prop) : Prop := ∀ (A : Option Addr) (c : Nat) (W : World), l.length ≤ c → Reads W W.heap.size 3 A l.length (flat l) → Calls Tryz.prog f (.slice A l.length c :: args).toArray W (P W)
set_option maxRecDepth 100000 in
set_option maxHeartbeats 12800000 in
theorem tells_core (l La Lc : List Ent) (F : List (Nat × Bool)) (ea er ef : Int) (vv rr : Bool) (ex : List UInt8) (ec : UInt8) (esy tok : List UInt8) (A : Option Addr) (c : Nat) (w : World) (hl : l.length ≤ 1000) (hLa : La.length ≤ 1001) (hLc : Lc.length ≤ 1001) (hF : F.length ≤ 1001) (hr : Reads w w.heap.size 3 A l.length (flat l))
    (hadd : QE 13 l [entV (ex, ec, esy)] (fun W => OwnPost W La ea))
    (hradd : QE 20 l [entV (ex, ec, esy)] (fun W => RdPost W La ea))
    (hrem : QE 14 l [str tok, byteV ec] (fun W => OwnPost W Lc er))
    (hrrem : QE 21 l [str tok, byteV ec] (fun W => RdPost W Lc er))
    (hlook : QE 15 l [str tok] (fun W => LookPost W F ef))
    (hrlook : QE 22 l [str tok] (fun W => LookPost W F ef))
    (hval : QE 17 l [] (fun W e w' => e = .returned (.bool vv) ∧ Below W.heap.size W w'))
    (hrval : QE 23 l [] (fun W e w' => e = .returned (.bool vv) ∧ Below W.heap.size W w'))
    (hrt : ∀ W : World, Calls Tryz.prog 24 #[entV (ex, ec, esy)] W (fun e w' => e = .returned (.bool rr) ∧ Below W.heap.size W w'))
    (hrrt : ∀ W : World, Calls Tryz.prog 25 #[entV (ex, ec, esy)] W (fun e w' => e = .returned (.bool rr) ∧ Below W.heap.size W w')) :
    Calls Tryz.prog 7 #[.slice A l.length c, entV (ex, ec, esy), str tok] w fun e w' => e = .returned (.bool true) ∧ Below w.heap.size w w' := by
  have HR := Lib.hid hr; clear hr
  have HADD := Lib.hid hadd; have HRADD := Lib.hid hradd; have HREM := Lib.hid hrem; have HRREM := Lib.hid hrrem; have HLOOK := Lib.hid hlook; have HRLOOK := Lib.hid hrlook
  have HVAL := Lib.hid hval; have HRVAL := Lib.hid hrval; have HRT := Lib.hid hrt; have HRRT := Lib.hid hrrt
  clear hadd hradd hrem hrrem hlook hrlook hval hrval hrt hrrt
  have hbox : Hid (∀ W : World, W = w.alloc (.cells #[str ex, byteV ec, str esy] 24) → Blk W w.heap.size 24 #[str ex, byteV ec, str esy] ∧ Below w.heap.size w W) := fun W h => by subst h; exact ⟨Blk.new _ _ _, (Below.refl _ _).alloc (Nat.le_refl _) _⟩
  go_enter Tryz.func7, Tryz.ntmps7
  go_wp2_with fail
  obtain ⟨W1, hW1⟩ : ∃ W1 : World, W1 = w.alloc (.cells #[str ex, byteV ec, str esy] 24) := ⟨_, rfl⟩
  obtain ⟨hbk, hb1⟩ := hbox.out W1 hW1
  rw [← hW1]
  clear hW1
  go_at_call 19; refine (given_any l A c _ (by omega) ((HR.out).later hb1)).mono ?_; rintro e w2 ⟨A2, c2, rfl, hc2, ho2, hb2⟩
  have HG := Lib.hid (Reads.of_own ho2)
  replace hbk := hbk.later hb2
  replace hb1 := below_then hb1 hb2
  clear ho2 hb2
  go_wp2_with fail
  go_at_call 18; refine (taken_any l A2 c2 _ (by omega) HG.out).mono ?_; rintro e w3 ⟨A3, c3, rfl, hc3, ho3, hb3⟩
  have HI3 := Lib.hid (Reads.of_own ho3)
  replace hbk := hbk.later hb3
  replace hb1 := below_then hb1 hb3
  clear ho3 hb3 HG
  go_wp2_with fail
  go_at_call 19; refine (given_any l A c _ (by omega) ((HR.out).later hb1)).mono ?_; rintro e w4 ⟨A4, c4, rfl, hc4, ho4, hb4⟩
  have HI4 := Lib.hid ((HI3.out).later hb4)
  have HR4 := Lib.hid (Reads.of_own ho4)
  replace hbk := hbk.later hb4
  replace hb1 := below_then hb1 hb4
  clear ho4 hb4 HI3
  obtain ⟨k0, k1, k2⟩ := box_cellsT hbk
  go_wp2_with fail
  go_at_call 13; refine ((HADD.out) _ _ _ hc3 HI4.out).mono ?_; rintro e w5 ⟨A5, c5, rfl, hc5, ho5, hb5⟩
  have HI5 := Lib.hid ((HI4.out).later hb5)
  have HR5 := Lib.hid ((HR4.out).later hb5)
  have HA5 := Lib.hid ho5
  have HB5 := Lib.hid hb5
  replace hbk := hbk.later hb5
  have hb15 := below_then hb1 hb5
  have HS4 := Lib.hid (hb1.size)
  clear ho5 hb5 k0 k1 k2 HR4
  obtain ⟨k0, k1, k2⟩ := box_cellsT hbk
  go_wp2_with fail
  go_at_call 20; refine ((HRADD.out) _ _ _ hc4 HR5.out).mono ?_; rintro e w6 ⟨A6, c6, rfl, hc6, hr6, hb6⟩
  have HI6 := Lib.hid ((HI5.out).later hb6)
  have HR6 := Lib.hid ((HR5.out).later hb6)
  have HA6 := Lib.hid (row_later (HA5.out) hb6)
  have HBR6 := Lib.hid hr6
  have HB6 := Lib.hid (below_then HB5.out hb6)
  have HZ6 := Lib.hid (Nat.le_trans HB5.out.size hb6.size)
  replace hbk := hbk.later hb6
  replace hb15 := below_then hb15 hb6
  clear hr6 hb6 k0 k1 k2 HI5 HR5 HB5
  obtain ⟨k0, k1, k2⟩ := box_cellsT hbk
  go_wp2_with fail
  go_at_call 14; refine ((HREM.out) _ _ _ hc3 HI6.out).mono ?_; rintro e w7 ⟨A7, c7, rfl, hc7, ho7, hb7⟩
  have HI7 := Lib.hid ((HI6.out).later hb7)
  have HR7 := Lib.hid ((HR6.out).later hb7)
  have HA7 := Lib.hid (row_later (HA6.out) hb7)
  have HBR7 := Lib.hid ((HBR6.out).later hb7)
  have HC7 := Lib.hid ho7
  have HB7 := Lib.hid (HB6.out.trans (hb7.mono HZ6.out))
  -- a's row lies below c's
  have HAC : Hid (∀ g, (Value.slice A5 La.length c5).ownBlock = some g → g < w6.heap.size) := Lib.hid (own_ltE HA6.out)
  replace hbk := hbk.later hb7
  replace hb15 := below_then hb15 hb7
  clear ho7 hb7 k0 k1 k2 HI6 HR6 HA6 HBR6 HB6
  obtain ⟨k0, k1, k2⟩ := box_cellsT hbk
  go_wp2_with fail
  go_at_call 21; refine ((HRREM.out) _ _ _ hc4 HR7.out).mono ?_; rintro e w8 ⟨A8, c8, rfl, hc8, hr8, hb8⟩
  have HI8 := Lib.hid ((HI7.out).later hb8)
  have HR8 := Lib.hid ((HR7.out).later hb8)
  have HA8 := Lib.hid (row_later (HA7.out) hb8)
  have HBR8 := Lib.hid ((HBR7.out).later hb8)
  have HC8 := Lib.hid (row_later (HC7.out) hb8)
  have HDR8 := Lib.hid hr8
  have HB8 := Lib.hid (HB7.out.trans (hb8.mono (by have := HZ6.out; have := HB7.out.size; omega)))
  replace hbk := hbk.later hb8
  replace hb15 := below_then hb15 hb8
  clear hr8 hb8 k0 k1 k2 HI7 HR7 HA7 HBR7 HC7 HB7
  go_wp2_with fail
  go_at_call 15; refine ((HLOOK.out) _ _ _ hc3 HI8.out).mono ?_; rintro e w9 ⟨A9, c9, rfl, hc9, hr9, hb9⟩
  have HI9 := Lib.hid ((HI8.out).later hb9)
  have HR9 := Lib.hid ((HR8.out).later hb9)
  have HA9 := Lib.hid (row_later (HA8.out) hb9)
  have HBR9 := Lib.hid ((HBR8.out).later hb9)
  have HC9 := Lib.hid (row_later (HC8.out) hb9)
  have HDR9 := Lib.hid ((HDR8.out).later hb9)
  have HF9 := Lib.hid hr9
  have HB9 := Lib.hid (HB8.out.trans (hb9.mono (by have := HB8.out.size; omega)))
  replace hbk := hbk.later hb9
  replace hb15 := below_then hb15 hb9
  clear hr9 hb9 HI8 HR8 HA8 HBR8 HC8 HDR8 HB8
  go_wp2_with fail
  go_at_call 22; refine ((HRLOOK.out) _ _ _ hc4 HR9.out).mono ?_; rintro e w10 ⟨A10, c10, rfl, hc10, hr10, hb10⟩
  have HI := Lib.hid ((HI9.out).later hb10)
  have HRR := Lib.hid ((HR9.out).later hb10)
  have HA := Lib.hid (row_later (HA9.out) hb10)
  have HBR := Lib.hid ((HBR9.out).later hb10)
  have HC := Lib.hid (row_later (HC9.out) hb10)
  have HDR := Lib.hid ((HDR9.out).later hb10)
  have HF1 := Lib.hid ((HF9.out).later hb10)
  have HF2 := Lib.hid hr10
  have HB10 := Lib.hid (HB9.out.trans (hb10.mono (by have := HB9.out.size; omega)))
  replace hbk := hbk.later hb10
  replace hb15 := below_then hb15 hb10
  clear hr10 hb10 HI9 HR9 HA9 HBR9 HC9 HDR9 HF9 HB9
  have hS := (⟨hbk.cell 0, hbk.cell 1, hbk.cell 2, hbk.lt, Below.refl _ _⟩ : w10.cell? ⟨w.heap.size, 0, none⟩ = some (str ex) ∧ w10.cell? ⟨w.heap.size, 1, none⟩ = some (byteV ec) ∧ w10.cell? ⟨w.heap.size, 2, none⟩ = some (str esy) ∧ w.heap.size < w10.heap.size ∧ Below w10.heap.size w10 w10)
  have HB1 := Lib.hid hb15
  have HB0 := Lib.hid hb1
  clear hbk hb15 hb1
  go_wp2_with fail
  refine wp_region_held_drew (S := fun W => W.cell? ⟨w.heap.size, 0, none⟩ = some (str ex) ∧ W.cell? ⟨w.heap.size, 1, none⟩ = some (byteV ec) ∧ W.cell? ⟨w.heap.size, 2, none⟩ = some (str esy) ∧ w.heap.size < W.heap.size ∧ Below w10.heap.size w10 W) (by kernel_rfl) (by exact start3 (e := (ex, ec, esy)) hS) (fun hHeld => ?_)
  refine wpAnyH_take (i := 0) (oi := { dst := some 69, op := Op.move (Operand.tmp 7), type := 22, pos := "law.go:85", after := #[], guard := none }) (v := ?v1_0) (by kernel_rfl) (by kernel_rfl) (by kernel_rfl) (by kernel_rfl) (fun _ _ _ h => h) (Or.inl ⟨by kernel_rfl, ?h1_0⟩) hHeld ?r1_0
  case h1_0 => (intro w hSw; (try dsimp only at hSw); go_simp; try with_reducible rfl)
  try simp only [Act.put, List.setIfInBounds_toArray, List.set_cons_zero, List.set_cons_succ]
  refine wpAnyH_take (i := 2) (oi := { dst := some 71, op := Op.move (Operand.tmp 8), type := 42, pos := "law.go:85", after := #[], guard := none }) (v := ?v1_2) (by kernel_rfl) (by kernel_rfl) (by kernel_rfl) (by kernel_rfl) (fun _ _ _ h => h) (Or.inl ⟨by kernel_rfl, ?h1_2⟩) hHeld ?r1_2
  case h1_2 => (intro w hSw; (try dsimp only at hSw); go_simp; try with_reducible rfl)
  try simp only [Act.put, List.setIfInBounds_toArray, List.set_cons_zero, List.set_cons_succ]
  refine wpAnyH_ready (rs := [1]) (by kernel_rfl) (by simp) ?_
  refine AllReadyH.cons (i := 1) (o := { dst := some 70, op := Op.call { callee := Callee.value (Operand.func 17), args := #[Operand.tmp 69], argTypes := #[22] }, type := 4, pos := "law.go:85", after := #[{ on := 0, ground := Ground.data }], guard := none }) rfl (fun K hK => ?_) AllReadyH.nil
  go_simp
  refine ((HVAL.out) _ _ _ hc3 ((HI.out).later hHeld.2.2.2.2)).mono ?_
  rintro e' v1 ⟨rfl, hd1⟩
  go_wp2_with fail
  refine hK.out _ _ (by exact keep3 (e := (ex, ec, esy)) (by assumption) (by assumption)) (fun hHeld => ?_)
  clear hK K
  try simp only [Act.put, List.setIfInBounds_toArray, List.set_cons_zero, List.set_cons_succ]
  refine wpAnyH_ready (rs := [3]) (by kernel_rfl) (by simp) ?_
  refine AllReadyH.cons (i := 3) (o := { dst := some 72, op := Op.call { callee := Callee.value (Operand.func 23), args := #[Operand.tmp 71], argTypes := #[42] }, type := 4, pos := "law.go:85", after := #[{ on := 2, ground := Ground.data }, { on := 1, ground := Ground.chain }], guard := none }) rfl (fun K hK => ?_) AllReadyH.nil
  go_simp
  refine ((HRVAL.out) _ _ _ hc4 ((HRR.out).later hHeld.2.2.2.2)).mono ?_
  rintro e' v2 ⟨rfl, hd2⟩
  go_wp2_with fail
  refine hK.out _ _ (by exact keep3 (e := (ex, ec, esy)) (by assumption) (by assumption)) (fun hHeld => ?_)
  clear hK K
  try simp only [Act.put, List.setIfInBounds_toArray, List.set_cons_zero, List.set_cons_succ]
  refine wpAnyH_take (i := 4) (oi := { dst := some 73, op := Op.binOp BinOp.neq 4 (Operand.tmp 70) (Operand.tmp 72) 4, type := 4, pos := "law.go:85", after := #[{ on := 1, ground := Ground.data }, { on := 3, ground := Ground.data }], guard := none }) (v := ?v1_4) (by kernel_rfl) (by kernel_rfl) (by kernel_rfl) (by kernel_rfl) (fun _ _ _ h => h) (Or.inl ⟨by kernel_rfl, ?h1_4⟩) hHeld ?r1_4
  case h1_4 => (intro w hSw; (try dsimp only at hSw); go_simp; try with_reducible rfl)
  try simp only [Act.put, List.setIfInBounds_toArray, List.set_cons_zero, List.set_cons_succ]
  refine wpAnyH_take (i := 5) (oi := { dst := some 74, op := Op.move (Operand.tmp 73), type := 4, pos := "law.go:85", after := #[{ on := 4, ground := Ground.data }, { on := 3, ground := Ground.chain }], guard := none }) (v := ?v1_5) (by kernel_rfl) (by kernel_rfl) (by kernel_rfl) (by kernel_rfl) (fun _ _ _ h => h) (Or.inl ⟨by kernel_rfl, ?h1_5⟩) hHeld ?r1_5
  case h1_5 => (intro w hSw; (try dsimp only at hSw); go_simp; try with_reducible rfl)
  try simp only [Act.put, List.setIfInBounds_toArray, List.set_cons_zero, List.set_cons_succ]
  refine wpAnyH_take (i := 6) (oi := { dst := some 75, op := Op.load 24 (Operand.tmp 4), type := 24, pos := "law.go:85", after := #[{ on := 5, ground := Ground.guard }], guard := some (5, false) }) (v := ?v1_6) (by kernel_rfl) (by kernel_rfl) (by kernel_rfl) (by kernel_rfl) (fun _ _ _ h => h) (Or.inl ⟨by kernel_rfl, ?h1_6⟩) hHeld ?r1_6
  case h1_6 => (intro w hSw; (try dsimp only at hSw); go_simp; try with_reducible rfl)
  try simp only [Act.put, List.setIfInBounds_toArray, List.set_cons_zero, List.set_cons_succ]
  refine wpAnyH_take (i := 8) (oi := { dst := some 77, op := Op.load 24 (Operand.tmp 4), type := 24, pos := "law.go:85", after := #[{ on := 5, ground := Ground.guard }], guard := some (5, false) }) (v := ?v1_8) (by kernel_rfl) (by kernel_rfl) (by kernel_rfl) (by kernel_rfl) (fun _ _ _ h => h) (Or.inl ⟨by kernel_rfl, ?h1_8⟩) hHeld ?r1_8
  case h1_8 => (intro w hSw; (try dsimp only at hSw); go_simp; try with_reducible rfl)
  try simp only [Act.put, List.setIfInBounds_toArray, List.set_cons_zero, List.set_cons_succ]
  refine wpAnyH_ready (rs := [7]) (by kernel_rfl) (by simp) ?_
  refine AllReadyH.cons (i := 7) (o := { dst := some 76, op := Op.call { callee := Callee.value (Operand.func 24), args := #[Operand.tmp 75], argTypes := #[24] }, type := 4, pos := "law.go:85", after := #[{ on := 6, ground := Ground.data }, { on := 5, ground := Ground.chain }, { on := 5, ground := Ground.guard }], guard := some (5, false) }) rfl (fun K hK => ?_) AllReadyH.nil
  go_simp
  refine ((HRT.out) _).mono ?_
  rintro e' v3 ⟨rfl, hd3⟩
  go_wp2_with fail
  refine hK.out _ _ (by exact keep3 (e := (ex, ec, esy)) (by assumption) (by assumption)) (fun hHeld => ?_)
  clear hK K
  try simp only [Act.put, List.setIfInBounds_toArray, List.set_cons_zero, List.set_cons_succ]
  refine wpAnyH_ready (rs := [9]) (by kernel_rfl) (by simp) ?_
  refine AllReadyH.cons (i := 9) (o := { dst := some 78, op := Op.call { callee := Callee.value (Operand.func 25), args := #[Operand.tmp 77], argTypes := #[46] }, type := 4, pos := "law.go:85", after := #[{ on := 8, ground := Ground.data }, { on := 7, ground := Ground.chain }, { on := 5, ground := Ground.guard }], guard := some (5, false) }) rfl (fun K hK => ?_) AllReadyH.nil
  go_simp
  refine ((HRRT.out) _).mono ?_
  rintro e' v4 ⟨rfl, hd4⟩
  go_wp2_with fail
  refine hK.out _ _ (by exact keep3 (e := (ex, ec, esy)) (by assumption) (by assumption)) (fun hHeld => ?_)
  clear hK K
  try simp only [Act.put, List.setIfInBounds_toArray, List.set_cons_zero, List.set_cons_succ]
  refine wpAnyH_take (i := 10) (oi := { dst := some 79, op := Op.binOp BinOp.neq 4 (Operand.tmp 76) (Operand.tmp 78) 4, type := 4, pos := "law.go:85", after := #[{ on := 7, ground := Ground.data }, { on := 9, ground := Ground.data }, { on := 5, ground := Ground.guard }], guard := some (5, false) }) (v := ?v1_10) (by kernel_rfl) (by kernel_rfl) (by kernel_rfl) (by kernel_rfl) (fun _ _ _ h => h) (Or.inl ⟨by kernel_rfl, ?h1_10⟩) hHeld ?r1_10
  case h1_10 => (intro w hSw; (try dsimp only at hSw); go_simp; try with_reducible rfl)
  try simp only [Act.put, List.setIfInBounds_toArray, List.set_cons_zero, List.set_cons_succ]
  refine wpAnyH_take (i := 11) (oi := { dst := some 80, op := Op.pick (Operand.tmp 74) (Operand.const (Value.bool true)) (Operand.tmp 79), type := 4, pos := "law.go:85", after := #[{ on := 5, ground := Ground.data }, { on := 10, ground := Ground.data }], guard := none }) (v := ?v1_11) (by kernel_rfl) (by kernel_rfl) (by kernel_rfl) (by kernel_rfl) (fun _ _ _ h => h) (Or.inl ⟨by kernel_rfl, ?h1_11⟩) hHeld ?r1_11
  case h1_11 => (intro w hSw; (try dsimp only at hSw); go_simp; try with_reducible rfl)
  try simp only [Act.put, List.setIfInBounds_toArray, List.set_cons_zero, List.set_cons_succ]
  refine wpAnyH_take (i := 12) (oi := { dst := some 81, op := Op.move (Operand.tmp 80), type := 4, pos := "law.go:85", after := #[{ on := 11, ground := Ground.data }, { on := 9, ground := Ground.chain }], guard := none }) (v := ?v1_12) (by kernel_rfl) (by kernel_rfl) (by kernel_rfl) (by kernel_rfl) (fun _ _ _ h => h) (Or.inl ⟨by kernel_rfl, ?h1_12⟩) hHeld ?r1_12
  case h1_12 => (intro w hSw; (try dsimp only at hSw); go_simp; try with_reducible rfl)
  try simp only [Act.put, List.setIfInBounds_toArray, List.set_cons_zero, List.set_cons_succ]
  refine wpAnyH_take (i := 13) (oi := { dst := some 82, op := Op.move (Operand.tmp 10), type := 31, pos := "law.go:85", after := #[{ on := 12, ground := Ground.guard }], guard := some (12, false) }) (v := ?v1_13) (by kernel_rfl) (by kernel_rfl) (by kernel_rfl) (by kernel_rfl) (fun _ _ _ h => h) (Or.inl ⟨by kernel_rfl, ?h1_13⟩) hHeld ?r1_13
  case h1_13 => (intro w hSw; (try dsimp only at hSw); go_simp; try with_reducible rfl)
  try simp only [Act.put, List.setIfInBounds_toArray, List.set_cons_zero, List.set_cons_succ]
  refine wpAnyH_take (i := 14) (oi := { dst := some 83, op := Op.move (Operand.tmp 12), type := 3, pos := "law.go:85", after := #[{ on := 12, ground := Ground.guard }], guard := some (12, false) }) (v := ?v1_14) (by kernel_rfl) (by kernel_rfl) (by kernel_rfl) (by kernel_rfl) (fun _ _ _ h => h) (Or.inl ⟨by kernel_rfl, ?h1_14⟩) hHeld ?r1_14
  case h1_14 => (intro w hSw; (try dsimp only at hSw); go_simp; try with_reducible rfl)
  try simp only [Act.put, List.setIfInBounds_toArray, List.set_cons_zero, List.set_cons_succ]
  refine wpAnyH_take (i := 15) (oi := { dst := some 84, op := Op.binOp BinOp.neq 3 (Operand.tmp 82) (Operand.tmp 83) 3, type := 4, pos := "law.go:85", after := #[{ on := 13, ground := Ground.data }, { on := 14, ground := Ground.data }, { on := 12, ground := Ground.guard }], guard := some (12, false) }) (v := ?v1_15) (by kernel_rfl) (by kernel_rfl) (by kernel_rfl) (by kernel_rfl) (fun _ _ _ h => h) (Or.inl ⟨by kernel_rfl, ?h1_15⟩) hHeld ?r1_15
  case h1_15 => (intro w hSw; (try dsimp only at hSw); go_simp; try with_reducible rfl)
  try simp only [Act.put, List.setIfInBounds_toArray, List.set_cons_zero, List.set_cons_succ]
  refine wpAnyH_take (i := 16) (oi := { dst := some 85, op := Op.pick (Operand.tmp 81) (Operand.const (Value.bool true)) (Operand.tmp 84), type := 4, pos := "law.go:85", after := #[{ on := 12, ground := Ground.data }, { on := 15, ground := Ground.data }], guard := none }) (v := ?v1_16) (by kernel_rfl) (by kernel_rfl) (by kernel_rfl) (by kernel_rfl) (fun _ _ _ h => h) (Or.inl ⟨by kernel_rfl, ?h1_16⟩) hHeld ?r1_16
  case h1_16 => (intro w hSw; (try dsimp only at hSw); go_simp; try with_reducible rfl)
  try simp only [Act.put, List.setIfInBounds_toArray, List.set_cons_zero, List.set_cons_succ]
  refine wpAnyH_take (i := 17) (oi := { dst := some 86, op := Op.move (Operand.tmp 85), type := 4, pos := "law.go:85", after := #[{ on := 16, ground := Ground.data }, { on := 12, ground := Ground.chain }], guard := none }) (v := ?v1_17) (by kernel_rfl) (by kernel_rfl) (by kernel_rfl) (by kernel_rfl) (fun _ _ _ h => h) (Or.inl ⟨by kernel_rfl, ?h1_17⟩) hHeld ?r1_17
  case h1_17 => (intro w hSw; (try dsimp only at hSw); go_simp; try with_reducible rfl)
  try simp only [Act.put, List.setIfInBounds_toArray, List.set_cons_zero, List.set_cons_succ]
  refine wpAnyH_take (i := 18) (oi := { dst := some 87, op := Op.move (Operand.tmp 14), type := 31, pos := "law.go:85", after := #[{ on := 17, ground := Ground.guard }], guard := some (17, false) }) (v := ?v1_18) (by kernel_rfl) (by kernel_rfl) (by kernel_rfl) (by kernel_rfl) (fun _ _ _ h => h) (Or.inl ⟨by kernel_rfl, ?h1_18⟩) hHeld ?r1_18
  case h1_18 => (intro w hSw; (try dsimp only at hSw); go_simp; try with_reducible rfl)
  try simp only [Act.put, List.setIfInBounds_toArray, List.set_cons_zero, List.set_cons_succ]
  refine wpAnyH_take (i := 19) (oi := { dst := some 88, op := Op.move (Operand.tmp 16), type := 3, pos := "law.go:85", after := #[{ on := 17, ground := Ground.guard }], guard := some (17, false) }) (v := ?v1_19) (by kernel_rfl) (by kernel_rfl) (by kernel_rfl) (by kernel_rfl) (fun _ _ _ h => h) (Or.inl ⟨by kernel_rfl, ?h1_19⟩) hHeld ?r1_19
  case h1_19 => (intro w hSw; (try dsimp only at hSw); go_simp; try with_reducible rfl)
  try simp only [Act.put, List.setIfInBounds_toArray, List.set_cons_zero, List.set_cons_succ]
  refine wpAnyH_take (i := 20) (oi := { dst := some 89, op := Op.binOp BinOp.neq 3 (Operand.tmp 87) (Operand.tmp 88) 3, type := 4, pos := "law.go:85", after := #[{ on := 18, ground := Ground.data }, { on := 19, ground := Ground.data }, { on := 17, ground := Ground.guard }], guard := some (17, false) }) (v := ?v1_20) (by kernel_rfl) (by kernel_rfl) (by kernel_rfl) (by kernel_rfl) (fun _ _ _ h => h) (Or.inl ⟨by kernel_rfl, ?h1_20⟩) hHeld ?r1_20
  case h1_20 => (intro w hSw; (try dsimp only at hSw); go_simp; try with_reducible rfl)
  try simp only [Act.put, List.setIfInBounds_toArray, List.set_cons_zero, List.set_cons_succ]
  refine wpAnyH_take (i := 21) (oi := { dst := some 90, op := Op.pick (Operand.tmp 86) (Operand.const (Value.bool true)) (Operand.tmp 89), type := 4, pos := "law.go:85", after := #[{ on := 17, ground := Ground.data }, { on := 20, ground := Ground.data }], guard := none }) (v := ?v1_21) (by kernel_rfl) (by kernel_rfl) (by kernel_rfl) (by kernel_rfl) (fun _ _ _ h => h) (Or.inl ⟨by kernel_rfl, ?h1_21⟩) hHeld ?r1_21
  case h1_21 => (intro w hSw; (try dsimp only at hSw); go_simp; try with_reducible rfl)
  try simp only [Act.put, List.setIfInBounds_toArray, List.set_cons_zero, List.set_cons_succ]
  refine wpAnyH_take (i := 22) (oi := { dst := some 91, op := Op.move (Operand.tmp 90), type := 4, pos := "law.go:85", after := #[{ on := 21, ground := Ground.data }, { on := 17, ground := Ground.chain }], guard := none }) (v := ?v1_22) (by kernel_rfl) (by kernel_rfl) (by kernel_rfl) (by kernel_rfl) (fun _ _ _ h => h) (Or.inl ⟨by kernel_rfl, ?h1_22⟩) hHeld ?r1_22
  case h1_22 => (intro w hSw; (try dsimp only at hSw); go_simp; try with_reducible rfl)
  try simp only [Act.put, List.setIfInBounds_toArray, List.set_cons_zero, List.set_cons_succ]
  refine wpAnyH_take (i := 23) (oi := { dst := some 92, op := Op.move (Operand.tmp 18), type := 31, pos := "law.go:85", after := #[{ on := 22, ground := Ground.guard }], guard := some (22, false) }) (v := ?v1_23) (by kernel_rfl) (by kernel_rfl) (by kernel_rfl) (by kernel_rfl) (fun _ _ _ h => h) (Or.inl ⟨by kernel_rfl, ?h1_23⟩) hHeld ?r1_23
  case h1_23 => (intro w hSw; (try dsimp only at hSw); go_simp; try with_reducible rfl)
  try simp only [Act.put, List.setIfInBounds_toArray, List.set_cons_zero, List.set_cons_succ]
  refine wpAnyH_take (i := 24) (oi := { dst := some 93, op := Op.move (Operand.tmp 20), type := 3, pos := "law.go:85", after := #[{ on := 22, ground := Ground.guard }], guard := some (22, false) }) (v := ?v1_24) (by kernel_rfl) (by kernel_rfl) (by kernel_rfl) (by kernel_rfl) (fun _ _ _ h => h) (Or.inl ⟨by kernel_rfl, ?h1_24⟩) hHeld ?r1_24
  case h1_24 => (intro w hSw; (try dsimp only at hSw); go_simp; try with_reducible rfl)
  try simp only [Act.put, List.setIfInBounds_toArray, List.set_cons_zero, List.set_cons_succ]
  refine wpAnyH_take (i := 25) (oi := { dst := some 94, op := Op.binOp BinOp.neq 3 (Operand.tmp 92) (Operand.tmp 93) 3, type := 4, pos := "law.go:85", after := #[{ on := 23, ground := Ground.data }, { on := 24, ground := Ground.data }, { on := 22, ground := Ground.guard }], guard := some (22, false) }) (v := ?v1_25) (by kernel_rfl) (by kernel_rfl) (by kernel_rfl) (by kernel_rfl) (fun _ _ _ h => h) (Or.inl ⟨by kernel_rfl, ?h1_25⟩) hHeld ?r1_25
  case h1_25 => (intro w hSw; (try dsimp only at hSw); go_simp; try with_reducible rfl)
  try simp only [Act.put, List.setIfInBounds_toArray, List.set_cons_zero, List.set_cons_succ]
  refine wpAnyH_take (i := 26) (oi := { dst := some 95, op := Op.pick (Operand.tmp 91) (Operand.const (Value.bool true)) (Operand.tmp 94), type := 4, pos := "law.go:85", after := #[{ on := 22, ground := Ground.data }, { on := 25, ground := Ground.data }], guard := none }) (v := ?v1_26) (by kernel_rfl) (by kernel_rfl) (by kernel_rfl) (by kernel_rfl) (fun _ _ _ h => h) (Or.inl ⟨by kernel_rfl, ?h1_26⟩) hHeld ?r1_26
  case h1_26 => (intro w hSw; (try dsimp only at hSw); go_simp; try with_reducible rfl)
  try simp only [Act.put, List.setIfInBounds_toArray, List.set_cons_zero, List.set_cons_succ]
  refine wpAnyH_take (i := 27) (oi := { dst := some 96, op := Op.move (Operand.tmp 95), type := 4, pos := "law.go:85", after := #[{ on := 26, ground := Ground.data }, { on := 22, ground := Ground.chain }], guard := none }) (v := ?v1_27) (by kernel_rfl) (by kernel_rfl) (by kernel_rfl) (by kernel_rfl) (fun _ _ _ h => h) (Or.inl ⟨by kernel_rfl, ?h1_27⟩) hHeld ?r1_27
  case h1_27 => (intro w hSw; (try dsimp only at hSw); go_simp; try with_reducible rfl)
  try simp only [Act.put, List.setIfInBounds_toArray, List.set_cons_zero, List.set_cons_succ]
  refine wpAnyH_take (i := 28) (oi := { dst := some 97, op := Op.move (Operand.tmp 9), type := 22, pos := "law.go:85", after := #[{ on := 27, ground := Ground.guard }], guard := some (27, false) }) (v := ?v1_28) (by kernel_rfl) (by kernel_rfl) (by kernel_rfl) (by kernel_rfl) (fun _ _ _ h => h) (Or.inl ⟨by kernel_rfl, ?h1_28⟩) hHeld ?r1_28
  case h1_28 => (intro w hSw; (try dsimp only at hSw); go_simp; try with_reducible rfl)
  try simp only [Act.put, List.setIfInBounds_toArray, List.set_cons_zero, List.set_cons_succ]
  refine wpAnyH_take (i := 29) (oi := { dst := some 98, op := Op.move (Operand.tmp 11), type := 42, pos := "law.go:85", after := #[{ on := 27, ground := Ground.guard }], guard := some (27, false) }) (v := ?v1_29) (by kernel_rfl) (by kernel_rfl) (by kernel_rfl) (by kernel_rfl) (fun _ _ _ h => h) (Or.inl ⟨by kernel_rfl, ?h1_29⟩) hHeld ?r1_29
  case h1_29 => (intro w hSw; (try dsimp only at hSw); go_simp; try with_reducible rfl)
  try simp only [Act.put, List.setIfInBounds_toArray, List.set_cons_zero, List.set_cons_succ]
  refine wpAnyH_ready (rs := [30]) (by kernel_rfl) (by simp) ?_
  refine AllReadyH.cons (i := 30) (o := { dst := some 99, op := Op.call { callee := Callee.value (Operand.func 18), args := #[Operand.tmp 98], argTypes := #[42] }, type := 22, pos := "law.go:85", after := #[{ on := 29, ground := Ground.data }, { on := 27, ground := Ground.chain }, { on := 27, ground := Ground.guard }], guard := some (27, false) }) rfl (fun K hK => ?_) AllReadyH.nil
  go_simp
  refine (taken_any La A6 c6 _ (by omega) ((HBR.out).later hHeld.2.2.2.2)).mono ?_
  rintro e' v5 ⟨A11, c11, rfl, hc11, ho11, hd5⟩
  have HT5 := Lib.hid (Reads.of_own ho11)
  clear ho11
  go_wp2_with fail
  refine hK.out _ _ (by exact keep3 (e := (ex, ec, esy)) (by assumption) (by assumption)) (fun hHeld => ?_)
  clear hK K
  try simp only [Act.put, List.setIfInBounds_toArray, List.set_cons_zero, List.set_cons_succ]
  refine wpAnyH_ready (rs := [31]) (by kernel_rfl) (by simp) ?_
  refine AllReadyH.cons (i := 31) (o := { dst := some 100, op := Op.call { callee := Callee.value (Operand.func 16), args := #[Operand.tmp 97, Operand.tmp 99], argTypes := #[22, 22] }, type := 4, pos := "law.go:85", after := #[{ on := 28, ground := Ground.data }, { on := 30, ground := Ground.data }, { on := 30, ground := Ground.chain }, { on := 27, ground := Ground.guard }], guard := some (27, false) }) rfl (fun K hK => ?_) AllReadyH.nil
  go_simp
  refine (sameE_any La La A5 A11 c5 c11 _ (by omega) ((Reads.of_own HA.out).later hHeld.2.2.2.2) HT5.out).mono ?_
  rintro e' v6 ⟨rfl, hd6⟩
  rw [show decide (La = La) = true from decide_eq_true rfl]
  go_wp2_with fail
  refine hK.out _ _ (by exact keep3 (e := (ex, ec, esy)) (by assumption) (by assumption)) (fun hHeld => ?_)
  clear hK K
  try simp only [Act.put, List.setIfInBounds_toArray, List.set_cons_zero, List.set_cons_succ]
  refine wpAnyH_take (i := 32) (oi := { dst := some 101, op := Op.unOp UnOp.not 4 (Operand.tmp 100), type := 4, pos := "law.go:85", after := #[{ on := 31, ground := Ground.data }, { on := 27, ground := Ground.guard }], guard := some (27, false) }) (v := ?v1_32) (by kernel_rfl) (by kernel_rfl) (by kernel_rfl) (by kernel_rfl) (fun _ _ _ h => h) (Or.inl ⟨by kernel_rfl, ?h1_32⟩) hHeld ?r1_32
  case h1_32 => (intro w hSw; (try dsimp only at hSw); go_simp; try with_reducible rfl)
  try simp only [Act.put, List.setIfInBounds_toArray, List.set_cons_zero, List.set_cons_succ]
  refine wpAnyH_take (i := 33) (oi := { dst := some 102, op := Op.pick (Operand.tmp 96) (Operand.const (Value.bool true)) (Operand.tmp 101), type := 4, pos := "law.go:85", after := #[{ on := 27, ground := Ground.data }, { on := 32, ground := Ground.data }], guard := none }) (v := ?v1_33) (by kernel_rfl) (by kernel_rfl) (by kernel_rfl) (by kernel_rfl) (fun _ _ _ h => h) (Or.inl ⟨by kernel_rfl, ?h1_33⟩) hHeld ?r1_33
  case h1_33 => (intro w hSw; (try dsimp only at hSw); go_simp; try with_reducible rfl)
  try simp only [Act.put, List.setIfInBounds_toArray, List.set_cons_zero, List.set_cons_succ]
  refine wpAnyH_take (i := 34) (oi := { dst := some 103, op := Op.move (Operand.tmp 102), type := 4, pos := "law.go:85", after := #[{ on := 33, ground := Ground.data }, { on := 31, ground := Ground.chain }], guard := none }) (v := ?v1_34) (by kernel_rfl) (by kernel_rfl) (by kernel_rfl) (by kernel_rfl) (fun _ _ _ h => h) (Or.inl ⟨by kernel_rfl, ?h1_34⟩) hHeld ?r1_34
  case h1_34 => (intro w hSw; (try dsimp only at hSw); go_simp; try with_reducible rfl)
  try simp only [Act.put, List.setIfInBounds_toArray, List.set_cons_zero, List.set_cons_succ]
  refine wpAnyH_take (i := 35) (oi := { dst := some 104, op := Op.move (Operand.tmp 13), type := 22, pos := "law.go:85", after := #[{ on := 34, ground := Ground.guard }], guard := some (34, false) }) (v := ?v1_35) (by kernel_rfl) (by kernel_rfl) (by kernel_rfl) (by kernel_rfl) (fun _ _ _ h => h) (Or.inl ⟨by kernel_rfl, ?h1_35⟩) hHeld ?r1_35
  case h1_35 => (intro w hSw; (try dsimp only at hSw); go_simp; try with_reducible rfl)
  try simp only [Act.put, List.setIfInBounds_toArray, List.set_cons_zero, List.set_cons_succ]
  refine wpAnyH_take (i := 36) (oi := { dst := some 105, op := Op.move (Operand.tmp 15), type := 42, pos := "law.go:85", after := #[{ on := 34, ground := Ground.guard }], guard := some (34, false) }) (v := ?v1_36) (by kernel_rfl) (by kernel_rfl) (by kernel_rfl) (by kernel_rfl) (fun _ _ _ h => h) (Or.inl ⟨by kernel_rfl, ?h1_36⟩) hHeld ?r1_36
  case h1_36 => (intro w hSw; (try dsimp only at hSw); go_simp; try with_reducible rfl)
  try simp only [Act.put, List.setIfInBounds_toArray, List.set_cons_zero, List.set_cons_succ]
  refine wpAnyH_ready (rs := [37]) (by kernel_rfl) (by simp) ?_
  refine AllReadyH.cons (i := 37) (o := { dst := some 106, op := Op.call { callee := Callee.value (Operand.func 18), args := #[Operand.tmp 105], argTypes := #[42] }, type := 22, pos := "law.go:85", after := #[{ on := 36, ground := Ground.data }, { on := 34, ground := Ground.chain }, { on := 34, ground := Ground.guard }], guard := some (34, false) }) rfl (fun K hK => ?_) AllReadyH.nil
  go_simp
  refine (taken_any Lc A8 c8 _ (by omega) ((HDR.out).later hHeld.2.2.2.2)).mono ?_
  rintro e' v7 ⟨A12, c12, rfl, hc12, ho12, hd7⟩
  have HT7 := Lib.hid (Reads.of_own ho12)
  clear ho12
  go_wp2_with fail
  refine hK.out _ _ (by exact keep3 (e := (ex, ec, esy)) (by assumption) (by assumption)) (fun hHeld => ?_)
  clear hK K
  try simp only [Act.put, List.setIfInBounds_toArray, List.set_cons_zero, List.set_cons_succ]
  refine wpAnyH_ready (rs := [38]) (by kernel_rfl) (by simp) ?_
  refine AllReadyH.cons (i := 38) (o := { dst := some 107, op := Op.call { callee := Callee.value (Operand.func 16), args := #[Operand.tmp 104, Operand.tmp 106], argTypes := #[22, 22] }, type := 4, pos := "law.go:85", after := #[{ on := 35, ground := Ground.data }, { on := 37, ground := Ground.data }, { on := 37, ground := Ground.chain }, { on := 34, ground := Ground.guard }], guard := some (34, false) }) rfl (fun K hK => ?_) AllReadyH.nil
  go_simp
  refine (sameE_any Lc Lc A7 A12 c7 c12 _ (by omega) ((Reads.of_own HC.out).later hHeld.2.2.2.2) HT7.out).mono ?_
  rintro e' v8 ⟨rfl, hd8⟩
  rw [show decide (Lc = Lc) = true from decide_eq_true rfl]
  go_wp2_with fail
  refine hK.out _ _ (by exact keep3 (e := (ex, ec, esy)) (by assumption) (by assumption)) (fun hHeld => ?_)
  clear hK K
  try simp only [Act.put, List.setIfInBounds_toArray, List.set_cons_zero, List.set_cons_succ]
  refine wpAnyH_take (i := 39) (oi := { dst := some 108, op := Op.unOp UnOp.not 4 (Operand.tmp 107), type := 4, pos := "law.go:85", after := #[{ on := 38, ground := Ground.data }, { on := 34, ground := Ground.guard }], guard := some (34, false) }) (v := ?v1_39) (by kernel_rfl) (by kernel_rfl) (by kernel_rfl) (by kernel_rfl) (fun _ _ _ h => h) (Or.inl ⟨by kernel_rfl, ?h1_39⟩) hHeld ?r1_39
  case h1_39 => (intro w hSw; (try dsimp only at hSw); go_simp; try with_reducible rfl)
  try simp only [Act.put, List.setIfInBounds_toArray, List.set_cons_zero, List.set_cons_succ]
  refine wpAnyH_take (i := 40) (oi := { dst := some 109, op := Op.pick (Operand.tmp 103) (Operand.const (Value.bool true)) (Operand.tmp 108), type := 4, pos := "law.go:85", after := #[{ on := 34, ground := Ground.data }, { on := 39, ground := Ground.data }], guard := none }) (v := ?v1_40) (by kernel_rfl) (by kernel_rfl) (by kernel_rfl) (by kernel_rfl) (fun _ _ _ h => h) (Or.inl ⟨by kernel_rfl, ?h1_40⟩) hHeld ?r1_40
  case h1_40 => (intro w hSw; (try dsimp only at hSw); go_simp; try with_reducible rfl)
  try simp only [Act.put, List.setIfInBounds_toArray, List.set_cons_zero, List.set_cons_succ]
  refine wpAnyH_take (i := 41) (oi := { dst := some 110, op := Op.move (Operand.tmp 109), type := 4, pos := "law.go:85", after := #[{ on := 40, ground := Ground.data }, { on := 38, ground := Ground.chain }], guard := none }) (v := ?v1_41) (by kernel_rfl) (by kernel_rfl) (by kernel_rfl) (by kernel_rfl) (fun _ _ _ h => h) (Or.inl ⟨by kernel_rfl, ?h1_41⟩) hHeld ?r1_41
  case h1_41 => (intro w hSw; (try dsimp only at hSw); go_simp; try with_reducible rfl)
  try simp only [Act.put, List.setIfInBounds_toArray, List.set_cons_zero, List.set_cons_succ]
  refine wpAnyH_take (i := 42) (oi := { dst := some 111, op := Op.move (Operand.tmp 17), type := 35, pos := "law.go:85", after := #[{ on := 41, ground := Ground.guard }], guard := some (41, false) }) (v := ?v1_42) (by kernel_rfl) (by kernel_rfl) (by kernel_rfl) (by kernel_rfl) (fun _ _ _ h => h) (Or.inl ⟨by kernel_rfl, ?h1_42⟩) hHeld ?r1_42
  case h1_42 => (intro w hSw; (try dsimp only at hSw); go_simp; try with_reducible rfl)
  try simp only [Act.put, List.setIfInBounds_toArray, List.set_cons_zero, List.set_cons_succ]
  refine wpAnyH_take (i := 43) (oi := { dst := some 112, op := Op.call { callee := Callee.builtin Builtin.len, args := #[Operand.tmp 111], argTypes := #[35] }, type := 3, pos := "law.go:85", after := #[{ on := 42, ground := Ground.data }, { on := 41, ground := Ground.guard }], guard := some (41, false) }) (v := ?v1_43) (by kernel_rfl) (by kernel_rfl) (by kernel_rfl) (by kernel_rfl) (fun _ _ _ h => h) (Or.inl ⟨by kernel_rfl, ?h1_43⟩) hHeld ?r1_43
  case h1_43 => (intro w hSw; (try dsimp only at hSw); go_simp; try with_reducible rfl)
  try simp only [Act.put, List.setIfInBounds_toArray, List.set_cons_zero, List.set_cons_succ]
  refine wpAnyH_take (i := 44) (oi := { dst := some 113, op := Op.move (Operand.tmp 19), type := 48, pos := "law.go:85", after := #[{ on := 41, ground := Ground.guard }], guard := some (41, false) }) (v := ?v1_44) (by kernel_rfl) (by kernel_rfl) (by kernel_rfl) (by kernel_rfl) (fun _ _ _ h => h) (Or.inl ⟨by kernel_rfl, ?h1_44⟩) hHeld ?r1_44
  case h1_44 => (intro w hSw; (try dsimp only at hSw); go_simp; try with_reducible rfl)
  try simp only [Act.put, List.setIfInBounds_toArray, List.set_cons_zero, List.set_cons_succ]
  refine wpAnyH_take (i := 45) (oi := { dst := some 114, op := Op.call { callee := Callee.builtin Builtin.len, args := #[Operand.tmp 113], argTypes := #[48] }, type := 3, pos := "law.go:85", after := #[{ on := 44, ground := Ground.data }, { on := 41, ground := Ground.guard }], guard := some (41, false) }) (v := ?v1_45) (by kernel_rfl) (by kernel_rfl) (by kernel_rfl) (by kernel_rfl) (fun _ _ _ h => h) (Or.inl ⟨by kernel_rfl, ?h1_45⟩) hHeld ?r1_45
  case h1_45 => (intro w hSw; (try dsimp only at hSw); go_simp; try with_reducible rfl)
  try simp only [Act.put, List.setIfInBounds_toArray, List.set_cons_zero, List.set_cons_succ]
  refine wpAnyH_take (i := 46) (oi := { dst := some 115, op := Op.binOp BinOp.neq 3 (Operand.tmp 112) (Operand.tmp 114) 3, type := 4, pos := "law.go:85", after := #[{ on := 43, ground := Ground.data }, { on := 45, ground := Ground.data }, { on := 41, ground := Ground.guard }], guard := some (41, false) }) (v := ?v1_46) (by kernel_rfl) (by kernel_rfl) (by kernel_rfl) (by kernel_rfl) (fun _ _ _ h => h) (Or.inl ⟨by kernel_rfl, ?h1_46⟩) hHeld ?r1_46
  case h1_46 => (intro w hSw; (try dsimp only at hSw); go_simp; try with_reducible rfl)
  try simp only [Act.put, List.setIfInBounds_toArray, List.set_cons_zero, List.set_cons_succ]
  refine wpAnyH_take (i := 47) (oi := { dst := some 116, op := Op.pick (Operand.tmp 110) (Operand.const (Value.bool true)) (Operand.tmp 115), type := 4, pos := "law.go:85", after := #[{ on := 41, ground := Ground.data }, { on := 46, ground := Ground.data }], guard := none }) (v := ?v1_47) (by kernel_rfl) (by kernel_rfl) (by kernel_rfl) (by kernel_rfl) (fun _ _ _ h => h) (Or.inl ⟨by kernel_rfl, ?h1_47⟩) hHeld ?r1_47
  case h1_47 => (intro w hSw; (try dsimp only at hSw); go_simp; try with_reducible rfl)
  try simp only [Act.put, List.setIfInBounds_toArray, List.set_cons_zero, List.set_cons_succ]
  refine wpAnyH_done (by kernel_rfl) ?_ _
  have HH := Lib.hid hHeld.2.2.2.2
  clear hHeld hS
  all_goals go_wp2_with fail
  go_loopw [21] (fun i wr => ∃ k : Nat, k ≤ F.length ∧ i = .int .i64 k ∧ Below w10.heap.size w10 wr) (fun i _ => F.length - (intOf i).toNat)
  case atStart => exact ⟨0, Nat.zero_le _, rfl, HH.out⟩
  case round =>
    obtain ⟨k, hk, rfl, hb⟩ := hrel
    by_cases hlt : k < F.length
    · have hf : F[k]? = some F[k] := List.getElem?_eq_getElem hlt
      obtain ⟨ba, oa, rfl, hBa, a0, a1⟩ := ((HF1.out).later hb).form hlt hf
      obtain ⟨bb, ob, rfl, hBb, b0, b1⟩ := ((HF2.out).later hb).form hlt hf
      generalize F[k] = f at a0 a1 b0 b1 hf
      clear hf
      obtain ⟨p, q⟩ := f
      cases q
      all_goals
        go_wp2_with fail
        go_quiet (fail)
        go_wp2_with fail
        go_roundw
        case rel => exact ⟨k + 1, by omega, by go_num, below_drewN hb _⟩
        case measure => simp [intOf]; omega
    · have HH2 := Lib.hid hb
      have HZ10 := Lib.hid (HB10.out.size)
      clear hb
      go_wp2_with fail
      go_loopw [22] (fun i wr => ∃ k : Nat, k ≤ La.length ∧ i = .int .i64 k ∧ (∃ xs, wr.ownsRow w4.heap.size 24 3 (.slice A5 La.length c5) La.length xs) ∧ (∃ ys, wr.ownsRow w6.heap.size 24 3 (.slice A7 Lc.length c7) Lc.length ys) ∧ Below w4.heap.size w4 wr) (fun i _ => La.length - (intOf i).toNat)
      case atStart => exact ⟨0, Nat.zero_le _, rfl, ⟨_, row_later HA.out HH2.out⟩, ⟨_, row_later HC.out HH2.out⟩, HB10.out.trans (HH2.out.mono HZ10.out)⟩
      case round =>
        obtain ⟨j, hj, rfl, ⟨xs, hxs⟩, ⟨ys, hys⟩, hbb⟩ := hrel
        by_cases hjt : j < La.length
        · obtain ⟨g, hg1, hg2, hg3, ⟨u0, hu0⟩, hfz, hset⟩ := own_at hxs hjt
          have hgl : g < w6.heap.size := HAC.out g (by rw [hg1]; rfl)
          have HSET := Lib.hid (hset (str [45]))
          have HYS := Lib.hid (own_other (g := g) (o := j * 3) (u := str [45]) hys hgl)
          have HBB := Lib.hid (hbb.setCell (p := ⟨g, j * 3, none⟩) hg2 (str [45]))
          rw [hg1] at HSET ⊢
          clear hset hxs hys hbb
          go_wp2_with fail
          go_roundw
          case rel => exact ⟨j + 1, by omega, by go_num, HSET.out, ⟨_, HYS.out⟩, HBB.out⟩
          case measure => simp [intOf]; omega
        · have HYS := Lib.hid hys
          have HBB := Lib.hid hbb
          clear hxs hys hbb
          go_wp2_with fail
          go_loopw [23] (fun i wr => ∃ k : Nat, k ≤ Lc.length ∧ i = .int .i64 k ∧ (∃ ys, wr.ownsRow w6.heap.size 24 3 (.slice A7 Lc.length c7) Lc.length ys) ∧ Below w4.heap.size w4 wr) (fun i _ => Lc.length - (intOf i).toNat)
          case atStart => exact ⟨0, Nat.zero_le _, rfl, ⟨_, HYS.out⟩, HBB.out⟩
          case round =>
            obtain ⟨m, hm, rfl, ⟨zs, hzs⟩, hbc⟩ := hrel
            by_cases hmt : m < Lc.length
            · obtain ⟨g, hg1, hg2, hg3, ⟨u0, hu0⟩, hfz, hset⟩ := own_at hzs hmt
              have HSET := Lib.hid (hset (str [45]))
              have HBC := Lib.hid (hbc.setCell (p := ⟨g, m * 3, none⟩) (Nat.le_trans HZ6.out hg2) (str [45]))
              rw [hg1] at HSET ⊢
              clear hset hzs hbc
              go_wp2_with fail
              go_roundw
              case rel => exact ⟨m + 1, by omega, by go_num, HSET.out, HBC.out⟩
              case measure => simp [intOf]; omega
            · have HBC := Lib.hid hbc
              clear hzs hbc
              go_wp2_with fail
              go_at_call 16; refine (sameE_any l l A3 A c3 c _ (by omega) ((HI4.out).later HBC.out) ((HR.out).later (HB0.out.trans (HBC.out.mono HS4.out)))).mono ?_; rintro e v9 ⟨rfl, hb9⟩; rw [show decide (l = l) = true from decide_eq_true rfl]
              go_wp2_with fail
              go_ret
              exact ⟨rfl, below_then (HB0.out.trans (HBC.out.mono HS4.out)) hb9⟩
theorem addR_len (l : List Ent) (e : Ent) : (addR l e).1.length ≤ l.length + 1 := by
  unfold addR
  split
  · split
    · simp
    · split
      · simp
      · split
        · simp
        · simp; omega
  · simp
theorem removeR_len (l : List Ent) (tok : List UInt8) (ct : UInt8) : (removeR l tok ct).1.length ≤ l.length := by
  unfold removeR
  split
  · split
    · simp
    · simp; omega
  · simp
theorem lookR_len (l : List Ent) (tok : List UInt8) : (lookR l tok).1.length ≤ l.length := by
  unfold lookR
  split
  · exact formsK_len l tok _
  · simp
theorem tells_any (l : List Ent) (e : Ent) (tok : List UInt8) (A : Option Addr) (c : Nat) (w : World) (hl : l.length ≤ 1000) (hw : ∀ x ∈ l, x.1.length ≤ 1000 ∧ x.2.2.length ≤ 1000) (hx : e.1.length ≤ 1000 ∧ e.2.2.length ≤ 1000) (hr : Reads w w.heap.size 3 A l.length (flat l)) :
    Calls Tryz.prog 7 #[.slice A l.length c, entV e, str tok] w fun e w' => e = .returned (.bool true) ∧ Below w.heap.size w w' := by
  obtain ⟨ex, ec, esy⟩ := e
  obtain ⟨hx1, hx2⟩ := hx
  simp only at hx1 hx2
  have h1 := addR_len l (ex, ec, esy)
  have h2 := removeR_len l tok ec
  have h3 := lookR_len l tok
  have hw1 : ∀ x ∈ l, x.1.length ≤ 1048576 := fun x h => by have := (hw x h).1; omega
  have hw2 : ∀ x ∈ l, x.1.length ≤ 1048576 ∧ x.2.2.length ≤ 1048576 := fun x h => by have := hw x h; omega
  have hw3 : ∀ x ∈ l, x.1.length ≤ 140737488355328 := fun x h => by have := (hw x h).1; omega
  exact tells_core l (addR l (ex, ec, esy)).1 (removeR l tok ec).1 (lookR l tok).1 (addR l (ex, ec, esy)).2 (removeR l tok ec).2 (lookR l tok).2 (validL l) (rightL (ex, ec, esy)) ex ec esy tok A c w hl (by omega) (by omega) (by omega) hr
    (fun A c W hc hr => add_any l (ex, ec, esy) A c W (by omega) hw1 hc hr (show ex.length ≤ _ by omega))
    (fun A c W _ hr => radd_any l (ex, ec, esy) A c W (by omega) hw2 ⟨show ex.length ≤ _ by omega, show esy.length ≤ _ by omega⟩ hr)
    (fun A c W hc hr => remove_any l tok ec A c W (by omega) hw1 hc hr)
    (fun A c W _ hr => rremove_any l tok ec A c W (by omega) hw2 hr)
    (fun A c W hc hr => look_any l tok A c W hw1 hc hr)
    (fun A c W _ hr => rlook_any l tok A c W (by omega) hw2 hr)
    (fun A c W hc hr => valid_any l A c W hw3 hc hr)
    (fun A c W _ hr => rvalid_any l A c W (by omega) hw2 hr)
    (fun W => right_any ex ec esy W (by omega))
    (fun W => rright_any ex ec esy W (by omega) (by omega))
theorem tsmall_big {l : List Ent} (h : smallL l = true) : ∀ e ∈ l, e.1.length ≤ maxLen ∧ e.2.2.length ≤ maxLen := fun e he => by
  have := (small_each h).2 e he; unfold maxLen; omega
theorem tone_reads {W : World} {g : Nat} {x : List UInt8} {ct : UInt8} {sy : List UInt8} {t : TypeId} (h : Blk W g t #[str x, byteV ct, str sy]) : Reads W W.heap.size 3 (some ⟨g, 0, none⟩) ([(x, ct, sy)] : List Ent).length (flat [(x, ct, sy)]) := by
  refine ⟨rfl, fun _ => ⟨_, rfl, h.lt, fun j u hu => ?_⟩⟩
  have e : (⟨g, 0, none⟩ : Addr).add j = ⟨g, j, none⟩ := by unfold Addr.add; split <;> simp_all
  rw [e, h.cell j]
  simpa [flat, entCells] using hu
set_option maxRecDepth 100000 in
set_option maxHeartbeats 3200000 in
theorem wordsTells_any (l : List Ent) (e : Ent) (tok : List UInt8) (A : Option Addr) (c : Nat) (w : World) (hr : Reads w w.heap.size 3 A l.length (flat l)) (hs : ∀ e ∈ l, e.1.length ≤ maxLen ∧ e.2.2.length ≤ maxLen) (hx : e.1.length ≤ maxLen ∧ e.2.2.length ≤ maxLen) (ht : tok.length ≤ maxLen) :
    Calls Tryz.prog 3 #[.slice A l.length c, entV e, str tok] w fun e w' => e = .returned (.bool true) ∧ Below w.heap.size w w' := by
  obtain ⟨ex, ec, esy⟩ := e
  have HR := Lib.hid hr; clear hr
  have HS := Lib.hid hs; clear hs
  have HX : Hid (∀ x ∈ [(ex, ec, esy)], x.1.length ≤ maxLen ∧ x.2.2.length ≤ maxLen) := Lib.hid (fun x h => by obtain rfl := List.mem_singleton.1 h; exact hx)
  clear hx
  unfold maxLen at ht
  have hbox : Hid (∀ W : World, W = w.alloc (.cells #[str ex, byteV ec, str esy] 24) → Blk W w.heap.size 24 #[str ex, byteV ec, str esy] ∧ Below w.heap.size w W) := fun W h => by subst h; exact ⟨Blk.new _ _ _, (Below.refl _ _).alloc (Nat.le_refl _) _⟩
  cases hsm : smallL l
  · have HSM := Lib.hid hsm; clear hsm
    go_enter Tryz.func3, Tryz.ntmps3
    go_wp2_with fail
    obtain ⟨W1, hW1⟩ : ∃ W1 : World, W1 = w.alloc (.cells #[str ex, byteV ec, str esy] 24) := ⟨_, rfl⟩
    obtain ⟨hbk, hb1⟩ := hbox.out W1 hW1
    rw [← hW1]
    clear hW1
    go_at_call 6; refine (small_any l _ _ _ ((HR.out).later hb1) HS.out).mono ?_; rintro e w2 ⟨rfl, rfl⟩; rw [HSM.out]
    go_wp2_with fail
    go_at_call 8; refine (awake_any _).mono ?_; rintro e w1 ⟨rfl, hb2⟩
    go_wp2_with fail
    go_ret
    exact ⟨rfl, below_then hb1 hb2⟩
  · obtain ⟨hl1, hl2⟩ := small_each hsm
    have HE := Lib.hid hl2; clear hl2
    have HSM := Lib.hid hsm; clear hsm
    cases hs1 : smallL [(ex, ec, esy)]
    · have HS1 := Lib.hid hs1; clear hs1
      go_enter Tryz.func3, Tryz.ntmps3
      go_wp2_with fail
      obtain ⟨W1, hW1⟩ : ∃ W1 : World, W1 = w.alloc (.cells #[str ex, byteV ec, str esy] 24) := ⟨_, rfl⟩
      obtain ⟨hbk, hb1⟩ := hbox.out W1 hW1
      rw [← hW1]
      clear hW1
      go_at_call 6; refine (small_any l _ _ _ ((HR.out).later hb1) HS.out).mono ?_; rintro e w2 ⟨rfl, rfl⟩; rw [HSM.out]
      obtain ⟨k0, k1, k2⟩ := box_cellsT hbk
      go_wp2_with fail
      have hb3 : Below W1.heap.size W1 (W1.alloc (.cells #[str ex, byteV ec, str esy] 24)) := (Below.refl _ _).alloc (Nat.le_refl _) _
      have hbn := tone_reads (Blk.new W1 24 #[str ex, byteV ec, str esy])
      replace hb1 := below_then hb1 hb3
      clear k0 k1 k2 hb3
      refine (small_any [(ex, ec, esy)] _ 1 _ hbn HX.out).mono ?_; rintro e w2 ⟨rfl, hw2⟩; rw [HS1.out]
      rw [hw2] at hb1
      clear hw2 hbn
      go_wp2_with fail
      go_at_call 8; refine (awake_any _).mono ?_; rintro e w1 ⟨rfl, hb2⟩
      go_wp2_with fail
      go_ret
      exact ⟨rfl, below_then hb1 hb2⟩
    · have hE1 := (small_each hs1).2 _ (List.mem_singleton.2 rfl)
      have HE1 := Lib.hid hE1; clear hE1
      have HS1 := Lib.hid hs1; clear hs1
      have HT := Lib.hid (fun W hr => tells_any l (ex, ec, esy) tok A c W (by omega) (fun x h => by have := HE.out x h; omega) ⟨by have := HE1.out.1; simp only at this ⊢; omega, by have := HE1.out.2; simp only at this ⊢; omega⟩ hr)
      by_cases h40 : tok.length ≤ 40
      all_goals
        go_enter Tryz.func3, Tryz.ntmps3
        go_wp2_with fail
        obtain ⟨W1, hW1⟩ : ∃ W1 : World, W1 = w.alloc (.cells #[str ex, byteV ec, str esy] 24) := ⟨_, rfl⟩
        obtain ⟨hbk, hb1⟩ := hbox.out W1 hW1
        rw [← hW1]
        clear hW1
        go_at_call 6; refine (small_any l _ _ _ ((HR.out).later hb1) HS.out).mono ?_; rintro e w2 ⟨rfl, rfl⟩; rw [HSM.out]
        obtain ⟨k0, k1, k2⟩ := box_cellsT hbk
        go_wp2_with fail
        have hb3 : Below W1.heap.size W1 (W1.alloc (.cells #[str ex, byteV ec, str esy] 24)) := (Below.refl _ _).alloc (Nat.le_refl _) _
        have hbn := tone_reads (Blk.new W1 24 #[str ex, byteV ec, str esy])
        replace hbk := hbk.later hb3
        replace hb1 := below_then hb1 hb3
        clear k0 k1 k2 hb3
        refine (small_any [(ex, ec, esy)] _ 1 _ hbn HX.out).mono ?_; rintro e w2 ⟨rfl, hw2⟩; rw [HS1.out]
        rw [hw2] at hb1 hbk
        clear hw2 hbn
        obtain ⟨k0, k1, k2⟩ := box_cellsT hbk
        go_wp2_with fail
        first
        | (go_at_call 7; refine ((HT.out) _ ((HR.out).later hb1)).mono ?_; rintro e w5 ⟨rfl, hb5⟩
           replace hb1 := below_then hb1 hb5
           clear k0 k1 k2
           go_wp2_with fail
           go_at_call 8; refine (awake_any _).mono ?_; rintro e w1 ⟨rfl, hb2⟩
           go_wp2_with fail
           go_ret
           exact ⟨rfl, below_then hb1 hb2⟩)
        | (go_at_call 8; refine (awake_any _).mono ?_; rintro e w1 ⟨rfl, hb2⟩
           go_wp2_with fail
           go_ret
           exact ⟨rfl, below_then hb1 hb2⟩)
/-- A string made of pieces, as a list of bytes. -/
theorem str_of (B : ByteArray) : Value.string B = str B.data.toList := rfl
theorem len_of (B : ByteArray) : B.data.toList.length = B.size := rfl
theorem len_app (l : List UInt8) (B : ByteArray) : ((⟨l.toArray⟩ : ByteArray) ++ B).data.toList.length = l.length + B.size := by
  rw [len_of, ByteArray.size_append]; rfl
theorem len_ext (B : ByteArray) (a b : Nat) : (B.extract a b).size ≤ b - a := by
  rw [ByteArray.size_extract]; omega
theorem writes_B (B : ByteArray) (w : World) (hs : B.size ≤ 1200) : Calls Tryz.prog 9 #[.string B] w fun e w' => e = .returned (.bool true) ∧ Below w.heap.size w w' := writes_any B.data.toList w hs
theorem size_of (l : List UInt8) : (⟨l.toArray⟩ : ByteArray).size = l.length := rfl
theorem take_reads {W : World} {B k : Nat} {A : Option Addr} {ss : List (List UInt8)} (h : Reads W B 1 A ss.length (ss.map str)) (hk : k ≤ ss.length) : Reads W B 1 A (ss.take k).length ((ss.take k).map str) := by
  have h1 := h.front hk
  rw [Nat.mul_one, ← List.map_take] at h1
  have : (ss.take k).length = k := by rw [List.length_take]; omega
  rw [this]; exact h1
theorem textsN (l : List (List UInt8)) (n m : Nat) (ad : Addr) (w : World) (hn : (l.take n).length = n) (hl : l.length = m) (ht : ∀ t ∈ l, t.length ≤ 1000) (hm : m ≤ 1000) (hr : Reads w w.heap.size 1 (some ad) l.length (l.map str)) :
    Calls Tryz.prog 10 #[.slice (some ad) n m] w fun e w' => e = .returned (.bool true) ∧ Below w.heap.size w w' := by
  have hnl : n ≤ l.length := by rw [List.length_take] at hn; omega
  have h := wordsTexts_core (l.take n) (some ad) m w (by rw [hn]; omega) (by rw [hn]; omega) (fun t h => by have := ht t (List.mem_of_mem_take h); unfold maxLen; omega) (take_reads hr hnl)
  rw [hn] at h
  exact h
theorem tells_nil (a : List UInt8) (w : World) (ha : a.length ≤ 1000) : Calls Tryz.prog 7 #[.slice none 0 0, .agg #[str a, .int .u8 1, .string ⟨#[80]⟩], str a] w fun e w' => e = .returned (.bool true) ∧ Below w.heap.size w w' :=
  tells_any [] (a, 1, [80]) a none 0 w (by simp) (by simp) ⟨ha, by simp⟩ Reads.none_
/-- One string in memory, in the middle of a region. -/
abbrev S1c (w W : World) (ad : Addr) (a : List UInt8) : Prop := W.cell? ad = some (str a) ∧ ad.block < W.heap.size ∧ Below w.heap.size w W
theorem keep1c {w W W' : World} {ad : Addr} {a : List UInt8} (h : S1c w W ad a) (hb : Below W.heap.size W W') : S1c w W' ad a := ⟨(hb.cell h.2.1).trans h.1, Nat.lt_of_lt_of_le h.2.1 hb.size, below_then h.2.2 hb⟩
theorem start1c {w W : World} {ad : Addr} {a : List UInt8} (h : S1c w W ad a) : S1c w W.drew ad a := ⟨h.1, h.2.1, h.2.2.drew⟩
def tokL : List (List UInt8) := [[], [65, 110, 110], [101, 118, 101, 114, 121], [69, 118, 101, 114, 121], [97, 110], [44], [46], [50], [32, 32], [101, 86, 101, 114, 121], [115, 108, 101, 101, 112, 115], [87, 104, 111, 44]]
def someL : List (List UInt8) := [[97], [97, 110], [97, 110, 100], [100, 111, 101, 115], [101, 97, 99, 104], [101, 118, 101, 114, 121], [104, 101], [105, 102], [105, 102, 102], [105, 115], [105, 116], [110, 111], [110, 111, 116], [111, 114], [115, 104, 101], [115, 111, 109, 101], [116, 104, 97, 116], [116, 104, 101], [116, 104, 101, 110], [119, 104, 111], [119, 104, 97, 116], [104, 101, 114]]
theorem Reads.strAt {W : World} {B n k m : Nat} {ad : Addr} {ss : List (List UInt8)} (h : Reads W B 1 (some ad) ss.length (ss.map str)) (hk : k < ss.length) (hm : ∀ s ∈ ss, s.length ≤ m) (hn : n = k) : ∃ s : List UInt8, W.cell? (ad.add n) = some (str s) ∧ s.length ≤ m ∧ s ∈ ss := by
  subst hn
  obtain ⟨ad', u, e, -, hx, hc⟩ := h.at_ hk
  cases e
  have hu : str ss[n] = u := by simpa [hk] using hx
  exact ⟨ss[n], by rw [hc, hu], hm _ (List.getElem_mem hk), List.getElem_mem hk⟩
set_option maxRecDepth 100000 in
set_option maxHeartbeats 6400000 in
theorem small_core (w : World) (hent : ∀ W : World, Calls Tryz.prog 11 #[] W fun e w' => e = .returned (.bool true) ∧ Below W.heap.size W w')
    (hlim : ∀ W : World, Calls Tryz.prog 12 #[] W fun e w' => e = .returned (.bool true) ∧ Below W.heap.size W w') :
    Calls Tryz.prog 4 #[] w fun e w' => e = .returned (.bool true) ∧ Below w.heap.size w w' := by
  have HE := Lib.hid hent; have HL := Lib.hid hlim; clear hent hlim
  go_enter Tryz.func4, Tryz.ntmps4
  go_wp2_with fail
  go_loopw [2] (fun i wr => ∃ k : Nat, k ≤ 1331 ∧ i = .int .i64 k ∧ Below w.heap.size w wr) (fun i _ => 1331 - (intOf i).toNat)
  case atStart => exact ⟨0, by omega, rfl, Below.refl _ _⟩
  case round =>
    obtain ⟨k, hk, rfl, hb⟩ := hrel
    by_cases hlt : k < 1331
    · go_wp2_with fail
      go_loopw [3, 4, 5] (fun s j n wr' => ∃ (B : List UInt8) (p q : Nat), p ≤ 3 ∧ B.length ≤ p ∧ q ≤ 1331 ∧ s = str B ∧ j = .int .i64 p ∧ n = .int .i64 q ∧ wr' = wr) (fun _ j _ _ => 3 - (intOf j).toNat)
      case atStart => exact ⟨[], 0, k, by omega, by simp, by omega, rfl, rfl, rfl, rfl⟩
      case round =>
        obtain ⟨B, p, q, hp, hB, hq, rfl, rfl, rfl, rfl⟩ := hrel
        by_cases hpt : p < 3
        · have hm0 : (0 : Int) ≤ (q : Int) % 11 := by omega
          have hm1 : (q : Int) % 11 < 11 := by omega
          have hmw : IntKind.i64.wrap ((q : Int) % 11 + 1) = (q : Int) % 11 + 1 := IntWalk.i64_in _ (by omega)
          by_cases hr : (q : Int) % 11 < 10
          · go_wp2_with fail
            go_roundw
            case rel => exact ⟨_, p + 1, q / 11, by omega, (by have h1 := len_ext ⟨#[97, 111, 115, 120, 122, 99, 104, 121, 101, 84]⟩ (q % 11) (q % 11 + 1); rw [← len_of] at h1; rw [List.length_append]; show B.length + _ ≤ _; omega), by omega, rfl, by go_num, by go_num, trivial⟩
            case measure => simp [intOf]; omega
          · go_wp2_with fail
            go_roundw
            case rel => exact ⟨B, p + 1, q / 11, by omega, by omega, by omega, rfl, by go_num, by go_num, trivial⟩
            case measure => simp [intOf]; omega
        · go_wp2_with fail
          go_at_call 9; refine (writes_any B _ (by omega)).mono ?_; rintro e w2 ⟨rfl, hb2⟩
          go_wp2_with fail
          go_roundw
          case rel => exact ⟨k + 1, by omega, by go_num, below_then hb hb2⟩
          case measure => simp [intOf]; omega
    · go_wp2_with fail
      clear hk hlt
      obtain ⟨W1, hW1⟩ : ∃ W1 : World, W1 = wr.alloc (.cells #[str [], str [65, 110, 110], str [101, 118, 101, 114, 121], str [69, 118, 101, 114, 121], str [97, 110], str [44], str [46], str [50], str [32, 32], str [101, 86, 101, 114, 121], str [115, 108, 101, 101, 112, 115], str [87, 104, 111, 44]] 9) := ⟨_, rfl⟩
      have hrd : Reads W1 W1.heap.size 1 (some ⟨wr.heap.size, 0, none⟩) tokL.length (tokL.map str) := by subst hW1; exact Reads.new2 wr _ 1 12 _ _ rfl rfl
      have hb1 : Below w.heap.size w W1 := by subst hW1; exact hb.alloc hb.size _
      rw [← hW1]
      obtain ⟨ad, had⟩ : ∃ ad : Addr, ad = ⟨wr.heap.size, 0, none⟩ := ⟨_, rfl⟩
      rw [← had] at hrd ⊢
      clear hW1 had hb
      go_loopw [7] (fun i wr' => ∃ k : Nat, k ≤ 20736 ∧ i = .int .i64 k ∧ Below W1.heap.size W1 wr') (fun i _ => 20736 - (intOf i).toNat)
      case atStart => exact ⟨0, by omega, rfl, Below.refl _ _⟩
      case round =>
        obtain ⟨k, hk, rfl, hb⟩ := hrel
        by_cases hlt : k < 20736
        · obtain ⟨a, ha, hal, -⟩ := (hrd.later hb).strAt (k := k % 12) (n := k % 12) (m := 6) (by show _ < 12; omega) (by decide) rfl
          obtain ⟨b, hbb, hbl, -⟩ := (hrd.later hb).strAt (k := k / 12 % 12) (n := k / 12 % 12) (m := 6) (by show _ < 12; omega) (by decide) rfl
          obtain ⟨c, hc, hcl, -⟩ := (hrd.later hb).strAt (k := k / 144 % 12) (n := k / 144 % 12) (m := 6) (by show _ < 12; omega) (by decide) rfl
          obtain ⟨d, hd, hdl, -⟩ := (hrd.later hb).strAt (k := k / 1728) (n := k / 1728) (m := 6) (by show _ < 12; omega) (by decide) rfl
          have HRD := Lib.hid hrd
          go_wp2_with fail
          go_quiet (fail)
          go_wp2_with fail
          refine (writes_B _ _ (by simp only [ByteArray.size_append, size_of]; show _ + 1 + _ + _ + 1 + _ ≤ 1200; omega)).mono ?_; rintro e w2 ⟨rfl, hb2⟩
          have hk0 : (0 : Int) ≤ 1 + (k : Int) % 4 := by omega
          have hk1 : 1 + (k : Int) % 4 ≤ 4 := by omega
          have hkw : IntKind.i64.wrap (1 + (k : Int) % 4) = 1 + (k : Int) % 4 := IntWalk.i64_in _ (by omega)
          go_wp2_with fail
          refine (textsN [a, b, c, d] (1 + k % 4) 4 ⟨w2.heap.size, 0, none⟩ _ (by rw [List.length_take]; show min _ 4 = _; omega) rfl (by intro t ht; simp only [List.mem_cons, List.not_mem_nil, or_false] at ht; rcases ht with rfl | rfl | rfl | rfl <;> omega) (by omega) (Reads.new2 w2 9 1 4 _ _ rfl rfl)).mono ?_; rintro e w3 ⟨rfl, hb3⟩
          have hbz := below_then (below_drewN hb nq) hb2
          have hby := below_then (hbz.alloc hbz.size (.cells #[str a, str b, str c, str d] 9)) hb3
          clear hb hb2 hb3 hbz ha hbb hc hd
          go_wp2_with fail
          go_roundw
          case rel => exact ⟨k + 1, by omega, by go_num, hby⟩
          case measure => simp [intOf]; omega
        · have hb2 := below_then hb1 hb
          go_wp2_with fail
          clear hb hlt hk hrd
          obtain ⟨W2, hW2⟩ : ∃ W2 : World, W2 = wr.alloc (.cells #[str [97], str [97, 110], str [97, 110, 100], str [100, 111, 101, 115], str [101, 97, 99, 104], str [101, 118, 101, 114, 121], str [104, 101], str [105, 102], str [105, 102, 102], str [105, 115], str [105, 116], str [110, 111], str [110, 111, 116], str [111, 114], str [115, 104, 101], str [115, 111, 109, 101], str [116, 104, 97, 116], str [116, 104, 101], str [116, 104, 101, 110], str [119, 104, 111], str [119, 104, 97, 116], str [104, 101, 114]] 9) := ⟨_, rfl⟩
          have hrd : Reads W2 W2.heap.size 1 (some ⟨wr.heap.size, 0, none⟩) someL.length (someL.map str) := by subst hW2; exact Reads.new2 wr _ 1 22 _ _ rfl rfl
          have hb3 : Below w.heap.size w W2 := by subst hW2; exact hb2.alloc hb2.size _
          rw [← hW2]
          obtain ⟨af, haf⟩ : ∃ af : Addr, af = ⟨wr.heap.size, 0, none⟩ := ⟨_, rfl⟩
          rw [← haf] at hrd ⊢
          have hafb : af.block < W2.heap.size := by rw [haf, hW2]; simp
          clear hW2 haf hb2
          go_loopw [13] (fun i wr' => ∃ k : Nat, k ≤ 22 ∧ i = .int .i64 k ∧ Below W2.heap.size W2 wr') (fun i _ => 22 - (intOf i).toNat)
          case atStart => exact ⟨0, by omega, rfl, Below.refl _ _⟩
          case round =>
            obtain ⟨j, hj, rfl, hbj⟩ := hrel
            by_cases hjt : j < 22
            · obtain ⟨a, ha, hal, -⟩ := (hrd.later hbj).strAt (k := j) (n := j) (m := 6) (by show _ < 22; omega) (by decide) rfl
              have hz1 : (9223372036854775807 < a.length + 1) = False := by rw [eq_iff_iff, iff_false]; omega
              have hz2 : (9223372036854775807 < 1 + a.length) = False := by rw [eq_iff_iff, iff_false]; omega
              have hz3 : (9223372036854775807 < 1 + a.length + 1) = False := by rw [eq_iff_iff, iff_false]; omega
              have hz4 : (9223372036854775807 < 1 + a.length + 1 + a.length) = False := by rw [eq_iff_iff, iff_false]; omega
              have hz5 : (9223372036854775807 < 1 + a.length + 1 + a.length + 1) = False := by rw [eq_iff_iff, iff_false]; omega
              have hS : S1c W2 _ (af.add j) a := ⟨ha, by rw [block_of_add]; exact Nat.lt_of_lt_of_le hafb hbj.size, hbj⟩
              go_wp2_with fail
              refine wp_region_held_drew (S := fun W => S1c W2 W (af.add j) a) (by kernel_rfl) (by exact start1c hS) (fun hHeld => ?_)
              refine wpAnyH_take (i := 0) (oi := { dst := some 98, op := Op.move (Operand.tmp 12), type := 29, pos := "law.go:157", after := #[], guard := none }) (v := ?v2_0) (by kernel_rfl) (by kernel_rfl) (by kernel_rfl) (by kernel_rfl) (fun _ _ _ h => h) (Or.inl ⟨by kernel_rfl, ?h2_0⟩) hHeld ?r2_0
              case h2_0 => (intro w hSw; (try dsimp only at hSw); go_simp; try with_reducible rfl)
              try simp only [Act.put, List.setIfInBounds_toArray, List.set_cons_zero, List.set_cons_succ]
              refine wpAnyH_take (i := 1) (oi := { dst := some 99, op := Op.move (Operand.tmp 13), type := 3, pos := "law.go:157", after := #[], guard := none }) (v := ?v2_1) (by kernel_rfl) (by kernel_rfl) (by kernel_rfl) (by kernel_rfl) (fun _ _ _ h => h) (Or.inl ⟨by kernel_rfl, ?h2_1⟩) hHeld ?r2_1
              case h2_1 => (intro w hSw; (try dsimp only at hSw); go_simp; try with_reducible rfl)
              try simp only [Act.put, List.setIfInBounds_toArray, List.set_cons_zero, List.set_cons_succ]
              refine wpAnyH_take (i := 2) (oi := { dst := some 100, op := Op.indexAddr 29 (Operand.tmp 98) (Operand.tmp 99), type := 0, pos := "law.go:157", after := #[{ on := 0, ground := Ground.data }, { on := 1, ground := Ground.data }], guard := none }) (v := ?v2_2) (by kernel_rfl) (by kernel_rfl) (by kernel_rfl) (by kernel_rfl) (fun _ _ _ h => h) (Or.inl ⟨by kernel_rfl, ?h2_2⟩) hHeld ?r2_2
              case h2_2 => (intro w hSw; (try dsimp only at hSw); go_simp; try with_reducible rfl)
              try simp only [Act.put, List.setIfInBounds_toArray, List.set_cons_zero, List.set_cons_succ]
              refine wpAnyH_take (i := 3) (oi := { dst := some 101, op := Op.load 9 (Operand.tmp 100), type := 9, pos := "law.go:157", after := #[{ on := 2, ground := Ground.data }], guard := none }) (v := ?v2_3) (by kernel_rfl) (by kernel_rfl) (by kernel_rfl) (by kernel_rfl) (fun _ _ _ h => h) (Or.inl ⟨by kernel_rfl, ?h2_3⟩) hHeld ?r2_3
              case h2_3 => (intro w hSw; (try dsimp only at hSw); go_simp; try with_reducible rfl)
              try simp only [Act.put, List.setIfInBounds_toArray, List.set_cons_zero, List.set_cons_succ]
              refine wpAnyH_ready (rs := [4]) (by kernel_rfl) (by simp) ?_
              refine AllReadyH.cons (i := 4) (o := { dst := some 102, op := Op.call { callee := Callee.value (Operand.func 9), args := #[Operand.tmp 101], argTypes := #[9] }, type := 4, pos := "law.go:157", after := #[{ on := 3, ground := Ground.data }], guard := none }) rfl (fun K hK => ?_) AllReadyH.nil
              go_simp
              refine (writes_any a _ (by omega)).mono ?_
              rintro e' v1 ⟨rfl, hd1⟩
              go_wp2_with fail
              refine hK.out _ _ (by exact keep1c (by assumption) (by assumption)) (fun hHeld => ?_)
              clear hK K
              try simp only [Act.put, List.setIfInBounds_toArray, List.set_cons_zero, List.set_cons_succ]
              refine wpAnyH_take (i := 5) (oi := { dst := some 103, op := Op.unOp UnOp.not 4 (Operand.tmp 102), type := 4, pos := "law.go:157", after := #[{ on := 4, ground := Ground.data }], guard := none }) (v := ?v2_5) (by kernel_rfl) (by kernel_rfl) (by kernel_rfl) (by kernel_rfl) (fun _ _ _ h => h) (Or.inl ⟨by kernel_rfl, ?h2_5⟩) hHeld ?r2_5
              case h2_5 => (intro w hSw; (try dsimp only at hSw); go_simp; try with_reducible rfl)
              try simp only [Act.put, List.setIfInBounds_toArray, List.set_cons_zero, List.set_cons_succ]
              refine wpAnyH_take (i := 6) (oi := { dst := some 104, op := Op.move (Operand.tmp 103), type := 4, pos := "law.go:157", after := #[{ on := 5, ground := Ground.data }, { on := 4, ground := Ground.chain }], guard := none }) (v := ?v2_6) (by kernel_rfl) (by kernel_rfl) (by kernel_rfl) (by kernel_rfl) (fun _ _ _ h => h) (Or.inl ⟨by kernel_rfl, ?h2_6⟩) hHeld ?r2_6
              case h2_6 => (intro w hSw; (try dsimp only at hSw); go_simp; try with_reducible rfl)
              try simp only [Act.put, List.setIfInBounds_toArray, List.set_cons_zero, List.set_cons_succ]
              refine wpAnyH_take (i := 7) (oi := { dst := some 105, op := Op.move (Operand.tmp 12), type := 29, pos := "law.go:157", after := #[{ on := 6, ground := Ground.guard }], guard := some (6, false) }) (v := ?v2_7) (by kernel_rfl) (by kernel_rfl) (by kernel_rfl) (by kernel_rfl) (fun _ _ _ h => h) (Or.inl ⟨by kernel_rfl, ?h2_7⟩) hHeld ?r2_7
              case h2_7 => (intro w hSw; (try dsimp only at hSw); go_simp; try with_reducible rfl)
              try simp only [Act.put, List.setIfInBounds_toArray, List.set_cons_zero, List.set_cons_succ]
              refine wpAnyH_take (i := 8) (oi := { dst := some 106, op := Op.move (Operand.tmp 13), type := 3, pos := "law.go:157", after := #[{ on := 6, ground := Ground.guard }], guard := some (6, false) }) (v := ?v2_8) (by kernel_rfl) (by kernel_rfl) (by kernel_rfl) (by kernel_rfl) (fun _ _ _ h => h) (Or.inl ⟨by kernel_rfl, ?h2_8⟩) hHeld ?r2_8
              case h2_8 => (intro w hSw; (try dsimp only at hSw); go_simp; try with_reducible rfl)
              try simp only [Act.put, List.setIfInBounds_toArray, List.set_cons_zero, List.set_cons_succ]
              refine wpAnyH_take (i := 9) (oi := { dst := some 107, op := Op.indexAddr 29 (Operand.tmp 105) (Operand.tmp 106), type := 0, pos := "law.go:157", after := #[{ on := 7, ground := Ground.data }, { on := 8, ground := Ground.data }, { on := 6, ground := Ground.guard }], guard := some (6, false) }) (v := ?v2_9) (by kernel_rfl) (by kernel_rfl) (by kernel_rfl) (by kernel_rfl) (fun _ _ _ h => h) (Or.inl ⟨by kernel_rfl, ?h2_9⟩) hHeld ?r2_9
              case h2_9 => (intro w hSw; (try dsimp only at hSw); go_simp; try with_reducible rfl)
              try simp only [Act.put, List.setIfInBounds_toArray, List.set_cons_zero, List.set_cons_succ]
              refine wpAnyH_take (i := 10) (oi := { dst := some 108, op := Op.load 9 (Operand.tmp 107), type := 9, pos := "law.go:157", after := #[{ on := 9, ground := Ground.data }, { on := 6, ground := Ground.guard }], guard := some (6, false) }) (v := ?v2_10) (by kernel_rfl) (by kernel_rfl) (by kernel_rfl) (by kernel_rfl) (fun _ _ _ h => h) (Or.inl ⟨by kernel_rfl, ?h2_10⟩) hHeld ?r2_10
              case h2_10 => (intro w hSw; (try dsimp only at hSw); go_simp; try with_reducible rfl)
              try simp only [Act.put, List.setIfInBounds_toArray, List.set_cons_zero, List.set_cons_succ]
              refine wpAnyH_take (i := 11) (oi := { dst := some 109, op := Op.binOp BinOp.add 9 (Operand.tmp 108) (Operand.const (Value.string { data := #[46] })) 9, type := 9, pos := "law.go:157", after := #[{ on := 10, ground := Ground.data }, { on := 6, ground := Ground.guard }], guard := some (6, false) }) (v := ?v2_11) (by kernel_rfl) (by kernel_rfl) (by kernel_rfl) (by kernel_rfl) (fun _ _ _ h => h) (Or.inl ⟨by kernel_rfl, ?h2_11⟩) hHeld ?r2_11
              case h2_11 => (intro w hSw; (try dsimp only at hSw); go_simp; try with_reducible rfl)
              try simp only [Act.put, List.setIfInBounds_toArray, List.set_cons_zero, List.set_cons_succ]
              refine wpAnyH_ready (rs := [12]) (by kernel_rfl) (by simp) ?_
              refine AllReadyH.cons (i := 12) (o := { dst := some 110, op := Op.call { callee := Callee.value (Operand.func 9), args := #[Operand.tmp 109], argTypes := #[9] }, type := 4, pos := "law.go:157", after := #[{ on := 11, ground := Ground.data }, { on := 6, ground := Ground.chain }, { on := 6, ground := Ground.guard }], guard := some (6, false) }) rfl (fun K hK => ?_) AllReadyH.nil
              go_simp
              refine (writes_B _ _ (by simp only [ByteArray.size_append, size_of]; show _ + 1 ≤ 1200; omega)).mono ?_
              rintro e' v2 ⟨rfl, hd2⟩
              go_wp2_with fail
              refine hK.out _ _ (by exact keep1c (by assumption) (by assumption)) (fun hHeld => ?_)
              clear hK K
              try simp only [Act.put, List.setIfInBounds_toArray, List.set_cons_zero, List.set_cons_succ]
              refine wpAnyH_take (i := 13) (oi := { dst := some 111, op := Op.unOp UnOp.not 4 (Operand.tmp 110), type := 4, pos := "law.go:157", after := #[{ on := 12, ground := Ground.data }, { on := 6, ground := Ground.guard }], guard := some (6, false) }) (v := ?v2_13) (by kernel_rfl) (by kernel_rfl) (by kernel_rfl) (by kernel_rfl) (fun _ _ _ h => h) (Or.inl ⟨by kernel_rfl, ?h2_13⟩) hHeld ?r2_13
              case h2_13 => (intro w hSw; (try dsimp only at hSw); go_simp; try with_reducible rfl)
              try simp only [Act.put, List.setIfInBounds_toArray, List.set_cons_zero, List.set_cons_succ]
              refine wpAnyH_take (i := 14) (oi := { dst := some 112, op := Op.pick (Operand.tmp 104) (Operand.const (Value.bool true)) (Operand.tmp 111), type := 4, pos := "law.go:157", after := #[{ on := 6, ground := Ground.data }, { on := 13, ground := Ground.data }], guard := none }) (v := ?v2_14) (by kernel_rfl) (by kernel_rfl) (by kernel_rfl) (by kernel_rfl) (fun _ _ _ h => h) (Or.inl ⟨by kernel_rfl, ?h2_14⟩) hHeld ?r2_14
              case h2_14 => (intro w hSw; (try dsimp only at hSw); go_simp; try with_reducible rfl)
              try simp only [Act.put, List.setIfInBounds_toArray, List.set_cons_zero, List.set_cons_succ]
              refine wpAnyH_take (i := 15) (oi := { dst := some 113, op := Op.move (Operand.tmp 112), type := 4, pos := "law.go:157", after := #[{ on := 14, ground := Ground.data }, { on := 12, ground := Ground.chain }], guard := none }) (v := ?v2_15) (by kernel_rfl) (by kernel_rfl) (by kernel_rfl) (by kernel_rfl) (fun _ _ _ h => h) (Or.inl ⟨by kernel_rfl, ?h2_15⟩) hHeld ?r2_15
              case h2_15 => (intro w hSw; (try dsimp only at hSw); go_simp; try with_reducible rfl)
              try simp only [Act.put, List.setIfInBounds_toArray, List.set_cons_zero, List.set_cons_succ]
              refine wpAnyH_take (i := 16) (oi := { dst := some 114, op := Op.move (Operand.tmp 12), type := 29, pos := "law.go:157", after := #[{ on := 15, ground := Ground.guard }], guard := some (15, false) }) (v := ?v2_16) (by kernel_rfl) (by kernel_rfl) (by kernel_rfl) (by kernel_rfl) (fun _ _ _ h => h) (Or.inl ⟨by kernel_rfl, ?h2_16⟩) hHeld ?r2_16
              case h2_16 => (intro w hSw; (try dsimp only at hSw); go_simp; try with_reducible rfl)
              try simp only [Act.put, List.setIfInBounds_toArray, List.set_cons_zero, List.set_cons_succ]
              refine wpAnyH_take (i := 17) (oi := { dst := some 115, op := Op.move (Operand.tmp 13), type := 3, pos := "law.go:157", after := #[{ on := 15, ground := Ground.guard }], guard := some (15, false) }) (v := ?v2_17) (by kernel_rfl) (by kernel_rfl) (by kernel_rfl) (by kernel_rfl) (fun _ _ _ h => h) (Or.inl ⟨by kernel_rfl, ?h2_17⟩) hHeld ?r2_17
              case h2_17 => (intro w hSw; (try dsimp only at hSw); go_simp; try with_reducible rfl)
              try simp only [Act.put, List.setIfInBounds_toArray, List.set_cons_zero, List.set_cons_succ]
              refine wpAnyH_take (i := 18) (oi := { dst := some 116, op := Op.indexAddr 29 (Operand.tmp 114) (Operand.tmp 115), type := 0, pos := "law.go:157", after := #[{ on := 16, ground := Ground.data }, { on := 17, ground := Ground.data }, { on := 15, ground := Ground.guard }], guard := some (15, false) }) (v := ?v2_18) (by kernel_rfl) (by kernel_rfl) (by kernel_rfl) (by kernel_rfl) (fun _ _ _ h => h) (Or.inl ⟨by kernel_rfl, ?h2_18⟩) hHeld ?r2_18
              case h2_18 => (intro w hSw; (try dsimp only at hSw); go_simp; try with_reducible rfl)
              try simp only [Act.put, List.setIfInBounds_toArray, List.set_cons_zero, List.set_cons_succ]
              refine wpAnyH_take (i := 19) (oi := { dst := some 117, op := Op.load 9 (Operand.tmp 116), type := 9, pos := "law.go:157", after := #[{ on := 18, ground := Ground.data }, { on := 15, ground := Ground.guard }], guard := some (15, false) }) (v := ?v2_19) (by kernel_rfl) (by kernel_rfl) (by kernel_rfl) (by kernel_rfl) (fun _ _ _ h => h) (Or.inl ⟨by kernel_rfl, ?h2_19⟩) hHeld ?r2_19
              case h2_19 => (intro w hSw; (try dsimp only at hSw); go_simp; try with_reducible rfl)
              try simp only [Act.put, List.setIfInBounds_toArray, List.set_cons_zero, List.set_cons_succ]
              refine wpAnyH_take (i := 20) (oi := { dst := some 118, op := Op.binOp BinOp.add 9 (Operand.const (Value.string { data := #[32] })) (Operand.tmp 117) 9, type := 9, pos := "law.go:157", after := #[{ on := 19, ground := Ground.data }, { on := 15, ground := Ground.guard }], guard := some (15, false) }) (v := ?v2_20) (by kernel_rfl) (by kernel_rfl) (by kernel_rfl) (by kernel_rfl) (fun _ _ _ h => h) (Or.inl ⟨by kernel_rfl, ?h2_20⟩) hHeld ?r2_20
              case h2_20 => (intro w hSw; (try dsimp only at hSw); go_simp; try with_reducible rfl)
              try simp only [Act.put, List.setIfInBounds_toArray, List.set_cons_zero, List.set_cons_succ]
              refine wpAnyH_take (i := 21) (oi := { dst := some 119, op := Op.binOp BinOp.add 9 (Operand.tmp 118) (Operand.const (Value.string { data := #[32] })) 9, type := 9, pos := "law.go:157", after := #[{ on := 20, ground := Ground.data }, { on := 15, ground := Ground.guard }], guard := some (15, false) }) (v := ?v2_21) (by kernel_rfl) (by kernel_rfl) (by kernel_rfl) (by kernel_rfl) (fun _ _ _ h => h) (Or.inl ⟨by kernel_rfl, ?h2_21⟩) hHeld ?r2_21
              case h2_21 => (intro w hSw; (try dsimp only at hSw); go_simp; try with_reducible rfl)
              try simp only [Act.put, List.setIfInBounds_toArray, List.set_cons_zero, List.set_cons_succ]
              refine wpAnyH_take (i := 22) (oi := { dst := some 120, op := Op.move (Operand.tmp 12), type := 29, pos := "law.go:157", after := #[{ on := 15, ground := Ground.guard }], guard := some (15, false) }) (v := ?v2_22) (by kernel_rfl) (by kernel_rfl) (by kernel_rfl) (by kernel_rfl) (fun _ _ _ h => h) (Or.inl ⟨by kernel_rfl, ?h2_22⟩) hHeld ?r2_22
              case h2_22 => (intro w hSw; (try dsimp only at hSw); go_simp; try with_reducible rfl)
              try simp only [Act.put, List.setIfInBounds_toArray, List.set_cons_zero, List.set_cons_succ]
              refine wpAnyH_take (i := 23) (oi := { dst := some 121, op := Op.move (Operand.tmp 13), type := 3, pos := "law.go:157", after := #[{ on := 15, ground := Ground.guard }], guard := some (15, false) }) (v := ?v2_23) (by kernel_rfl) (by kernel_rfl) (by kernel_rfl) (by kernel_rfl) (fun _ _ _ h => h) (Or.inl ⟨by kernel_rfl, ?h2_23⟩) hHeld ?r2_23
              case h2_23 => (intro w hSw; (try dsimp only at hSw); go_simp; try with_reducible rfl)
              try simp only [Act.put, List.setIfInBounds_toArray, List.set_cons_zero, List.set_cons_succ]
              refine wpAnyH_take (i := 24) (oi := { dst := some 122, op := Op.indexAddr 29 (Operand.tmp 120) (Operand.tmp 121), type := 0, pos := "law.go:157", after := #[{ on := 22, ground := Ground.data }, { on := 23, ground := Ground.data }, { on := 15, ground := Ground.guard }], guard := some (15, false) }) (v := ?v2_24) (by kernel_rfl) (by kernel_rfl) (by kernel_rfl) (by kernel_rfl) (fun _ _ _ h => h) (Or.inl ⟨by kernel_rfl, ?h2_24⟩) hHeld ?r2_24
              case h2_24 => (intro w hSw; (try dsimp only at hSw); go_simp; try with_reducible rfl)
              try simp only [Act.put, List.setIfInBounds_toArray, List.set_cons_zero, List.set_cons_succ]
              refine wpAnyH_take (i := 25) (oi := { dst := some 123, op := Op.load 9 (Operand.tmp 122), type := 9, pos := "law.go:157", after := #[{ on := 24, ground := Ground.data }, { on := 15, ground := Ground.guard }], guard := some (15, false) }) (v := ?v2_25) (by kernel_rfl) (by kernel_rfl) (by kernel_rfl) (by kernel_rfl) (fun _ _ _ h => h) (Or.inl ⟨by kernel_rfl, ?h2_25⟩) hHeld ?r2_25
              case h2_25 => (intro w hSw; (try dsimp only at hSw); go_simp; try with_reducible rfl)
              try simp only [Act.put, List.setIfInBounds_toArray, List.set_cons_zero, List.set_cons_succ]
              refine wpAnyH_take (i := 26) (oi := { dst := some 124, op := Op.binOp BinOp.add 9 (Operand.tmp 119) (Operand.tmp 123) 9, type := 9, pos := "law.go:157", after := #[{ on := 21, ground := Ground.data }, { on := 25, ground := Ground.data }, { on := 15, ground := Ground.guard }], guard := some (15, false) }) (v := ?v2_26) (by kernel_rfl) (by kernel_rfl) (by kernel_rfl) (by kernel_rfl) (fun _ _ _ h => h) (Or.inl ⟨by kernel_rfl, ?h2_26⟩) hHeld ?r2_26
              case h2_26 => (intro w hSw; (try dsimp only at hSw); go_simp; try with_reducible rfl)
              try simp only [Act.put, List.setIfInBounds_toArray, List.set_cons_zero, List.set_cons_succ]
              refine wpAnyH_take (i := 27) (oi := { dst := some 125, op := Op.binOp BinOp.add 9 (Operand.tmp 124) (Operand.const (Value.string { data := #[46] })) 9, type := 9, pos := "law.go:157", after := #[{ on := 26, ground := Ground.data }, { on := 15, ground := Ground.guard }], guard := some (15, false) }) (v := ?v2_27) (by kernel_rfl) (by kernel_rfl) (by kernel_rfl) (by kernel_rfl) (fun _ _ _ h => h) (Or.inl ⟨by kernel_rfl, ?h2_27⟩) hHeld ?r2_27
              case h2_27 => (intro w hSw; (try dsimp only at hSw); go_simp; try with_reducible rfl)
              try simp only [Act.put, List.setIfInBounds_toArray, List.set_cons_zero, List.set_cons_succ]
              refine wpAnyH_ready (rs := [28]) (by kernel_rfl) (by simp) ?_
              refine AllReadyH.cons (i := 28) (o := { dst := some 126, op := Op.call { callee := Callee.value (Operand.func 9), args := #[Operand.tmp 125], argTypes := #[9] }, type := 4, pos := "law.go:157", after := #[{ on := 27, ground := Ground.data }, { on := 15, ground := Ground.chain }, { on := 15, ground := Ground.guard }], guard := some (15, false) }) rfl (fun K hK => ?_) AllReadyH.nil
              go_simp
              refine (writes_B _ _ (by simp only [ByteArray.size_append, size_of]; show 1 + _ + 1 + _ + 1 ≤ 1200; omega)).mono ?_
              rintro e' v3 ⟨rfl, hd3⟩
              go_wp2_with fail
              refine hK.out _ _ (by exact keep1c (by assumption) (by assumption)) (fun hHeld => ?_)
              clear hK K
              try simp only [Act.put, List.setIfInBounds_toArray, List.set_cons_zero, List.set_cons_succ]
              refine wpAnyH_take (i := 29) (oi := { dst := some 127, op := Op.unOp UnOp.not 4 (Operand.tmp 126), type := 4, pos := "law.go:157", after := #[{ on := 28, ground := Ground.data }, { on := 15, ground := Ground.guard }], guard := some (15, false) }) (v := ?v2_29) (by kernel_rfl) (by kernel_rfl) (by kernel_rfl) (by kernel_rfl) (fun _ _ _ h => h) (Or.inl ⟨by kernel_rfl, ?h2_29⟩) hHeld ?r2_29
              case h2_29 => (intro w hSw; (try dsimp only at hSw); go_simp; try with_reducible rfl)
              try simp only [Act.put, List.setIfInBounds_toArray, List.set_cons_zero, List.set_cons_succ]
              refine wpAnyH_take (i := 30) (oi := { dst := some 128, op := Op.pick (Operand.tmp 113) (Operand.const (Value.bool true)) (Operand.tmp 127), type := 4, pos := "law.go:157", after := #[{ on := 15, ground := Ground.data }, { on := 29, ground := Ground.data }], guard := none }) (v := ?v2_30) (by kernel_rfl) (by kernel_rfl) (by kernel_rfl) (by kernel_rfl) (fun _ _ _ h => h) (Or.inl ⟨by kernel_rfl, ?h2_30⟩) hHeld ?r2_30
              case h2_30 => (intro w hSw; (try dsimp only at hSw); go_simp; try with_reducible rfl)
              try simp only [Act.put, List.setIfInBounds_toArray, List.set_cons_zero, List.set_cons_succ]
              refine wpAnyH_take (i := 31) (oi := { dst := some 129, op := Op.move (Operand.tmp 128), type := 4, pos := "law.go:157", after := #[{ on := 30, ground := Ground.data }, { on := 28, ground := Ground.chain }], guard := none }) (v := ?v2_31) (by kernel_rfl) (by kernel_rfl) (by kernel_rfl) (by kernel_rfl) (fun _ _ _ h => h) (Or.inl ⟨by kernel_rfl, ?h2_31⟩) hHeld ?r2_31
              case h2_31 => (intro w hSw; (try dsimp only at hSw); go_simp; try with_reducible rfl)
              try simp only [Act.put, List.setIfInBounds_toArray, List.set_cons_zero, List.set_cons_succ]
              refine wpAnyH_take (i := 32) (oi := { dst := some 130, op := Op.move (Operand.tmp 12), type := 29, pos := "law.go:157", after := #[{ on := 31, ground := Ground.guard }], guard := some (31, false) }) (v := ?v2_32) (by kernel_rfl) (by kernel_rfl) (by kernel_rfl) (by kernel_rfl) (fun _ _ _ h => h) (Or.inl ⟨by kernel_rfl, ?h2_32⟩) hHeld ?r2_32
              case h2_32 => (intro w hSw; (try dsimp only at hSw); go_simp; try with_reducible rfl)
              try simp only [Act.put, List.setIfInBounds_toArray, List.set_cons_zero, List.set_cons_succ]
              refine wpAnyH_take (i := 33) (oi := { dst := some 131, op := Op.move (Operand.tmp 13), type := 3, pos := "law.go:157", after := #[{ on := 31, ground := Ground.guard }], guard := some (31, false) }) (v := ?v2_33) (by kernel_rfl) (by kernel_rfl) (by kernel_rfl) (by kernel_rfl) (fun _ _ _ h => h) (Or.inl ⟨by kernel_rfl, ?h2_33⟩) hHeld ?r2_33
              case h2_33 => (intro w hSw; (try dsimp only at hSw); go_simp; try with_reducible rfl)
              try simp only [Act.put, List.setIfInBounds_toArray, List.set_cons_zero, List.set_cons_succ]
              refine wpAnyH_take (i := 34) (oi := { dst := some 132, op := Op.indexAddr 29 (Operand.tmp 130) (Operand.tmp 131), type := 0, pos := "law.go:157", after := #[{ on := 32, ground := Ground.data }, { on := 33, ground := Ground.data }, { on := 31, ground := Ground.guard }], guard := some (31, false) }) (v := ?v2_34) (by kernel_rfl) (by kernel_rfl) (by kernel_rfl) (by kernel_rfl) (fun _ _ _ h => h) (Or.inl ⟨by kernel_rfl, ?h2_34⟩) hHeld ?r2_34
              case h2_34 => (intro w hSw; (try dsimp only at hSw); go_simp; try with_reducible rfl)
              try simp only [Act.put, List.setIfInBounds_toArray, List.set_cons_zero, List.set_cons_succ]
              refine wpAnyH_take (i := 35) (oi := { dst := some 133, op := Op.load 9 (Operand.tmp 132), type := 9, pos := "law.go:157", after := #[{ on := 34, ground := Ground.data }, { on := 31, ground := Ground.guard }], guard := some (31, false) }) (v := ?v2_35) (by kernel_rfl) (by kernel_rfl) (by kernel_rfl) (by kernel_rfl) (fun _ _ _ h => h) (Or.inl ⟨by kernel_rfl, ?h2_35⟩) hHeld ?r2_35
              case h2_35 => (intro w hSw; (try dsimp only at hSw); go_simp; try with_reducible rfl)
              try simp only [Act.put, List.setIfInBounds_toArray, List.set_cons_zero, List.set_cons_succ]
              refine wpAnyH_take (i := 36) (oi := { dst := some 134, op := Op.build 24 #[(0, Operand.tmp 133), (1, Operand.const (Value.int IntKind.u8 1)), (2, Operand.const (Value.string { data := #[80] }))], type := 24, pos := "law.go:157", after := #[{ on := 35, ground := Ground.data }, { on := 31, ground := Ground.guard }], guard := some (31, false) }) (v := ?v2_36) (by kernel_rfl) (by kernel_rfl) (by kernel_rfl) (by kernel_rfl) (fun _ _ _ h => h) (Or.inl ⟨by kernel_rfl, ?h2_36⟩) hHeld ?r2_36
              case h2_36 => (intro w hSw; (try dsimp only at hSw); go_simp; try with_reducible rfl)
              try simp only [Act.put, List.setIfInBounds_toArray, List.set_cons_zero, List.set_cons_succ]
              refine wpAnyH_take (i := 37) (oi := { dst := some 135, op := Op.move (Operand.tmp 12), type := 29, pos := "law.go:157", after := #[{ on := 31, ground := Ground.guard }], guard := some (31, false) }) (v := ?v2_37) (by kernel_rfl) (by kernel_rfl) (by kernel_rfl) (by kernel_rfl) (fun _ _ _ h => h) (Or.inl ⟨by kernel_rfl, ?h2_37⟩) hHeld ?r2_37
              case h2_37 => (intro w hSw; (try dsimp only at hSw); go_simp; try with_reducible rfl)
              try simp only [Act.put, List.setIfInBounds_toArray, List.set_cons_zero, List.set_cons_succ]
              refine wpAnyH_take (i := 38) (oi := { dst := some 136, op := Op.move (Operand.tmp 13), type := 3, pos := "law.go:157", after := #[{ on := 31, ground := Ground.guard }], guard := some (31, false) }) (v := ?v2_38) (by kernel_rfl) (by kernel_rfl) (by kernel_rfl) (by kernel_rfl) (fun _ _ _ h => h) (Or.inl ⟨by kernel_rfl, ?h2_38⟩) hHeld ?r2_38
              case h2_38 => (intro w hSw; (try dsimp only at hSw); go_simp; try with_reducible rfl)
              try simp only [Act.put, List.setIfInBounds_toArray, List.set_cons_zero, List.set_cons_succ]
              refine wpAnyH_take (i := 39) (oi := { dst := some 137, op := Op.indexAddr 29 (Operand.tmp 135) (Operand.tmp 136), type := 0, pos := "law.go:157", after := #[{ on := 37, ground := Ground.data }, { on := 38, ground := Ground.data }, { on := 31, ground := Ground.guard }], guard := some (31, false) }) (v := ?v2_39) (by kernel_rfl) (by kernel_rfl) (by kernel_rfl) (by kernel_rfl) (fun _ _ _ h => h) (Or.inl ⟨by kernel_rfl, ?h2_39⟩) hHeld ?r2_39
              case h2_39 => (intro w hSw; (try dsimp only at hSw); go_simp; try with_reducible rfl)
              try simp only [Act.put, List.setIfInBounds_toArray, List.set_cons_zero, List.set_cons_succ]
              refine wpAnyH_take (i := 40) (oi := { dst := some 138, op := Op.load 9 (Operand.tmp 137), type := 9, pos := "law.go:157", after := #[{ on := 39, ground := Ground.data }, { on := 31, ground := Ground.guard }], guard := some (31, false) }) (v := ?v2_40) (by kernel_rfl) (by kernel_rfl) (by kernel_rfl) (by kernel_rfl) (fun _ _ _ h => h) (Or.inl ⟨by kernel_rfl, ?h2_40⟩) hHeld ?r2_40
              case h2_40 => (intro w hSw; (try dsimp only at hSw); go_simp; try with_reducible rfl)
              try simp only [Act.put, List.setIfInBounds_toArray, List.set_cons_zero, List.set_cons_succ]
              refine wpAnyH_ready (rs := [41]) (by kernel_rfl) (by simp) ?_
              refine AllReadyH.cons (i := 41) (o := { dst := some 139, op := Op.call { callee := Callee.value (Operand.func 7), args := #[Operand.const (Value.slice none 0 0), Operand.tmp 134, Operand.tmp 138], argTypes := #[22, 24, 9] }, type := 4, pos := "law.go:157", after := #[{ on := 36, ground := Ground.data }, { on := 40, ground := Ground.data }, { on := 31, ground := Ground.chain }, { on := 31, ground := Ground.guard }], guard := some (31, false) }) rfl (fun K hK => ?_) AllReadyH.nil
              go_simp
              refine (tells_nil a _ (by omega)).mono ?_
              rintro e' v4 ⟨rfl, hd4⟩
              go_wp2_with fail
              refine hK.out _ _ (by exact keep1c (by assumption) (by assumption)) (fun hHeld => ?_)
              clear hK K
              try simp only [Act.put, List.setIfInBounds_toArray, List.set_cons_zero, List.set_cons_succ]
              refine wpAnyH_take (i := 42) (oi := { dst := some 140, op := Op.unOp UnOp.not 4 (Operand.tmp 139), type := 4, pos := "law.go:157", after := #[{ on := 41, ground := Ground.data }, { on := 31, ground := Ground.guard }], guard := some (31, false) }) (v := ?v2_42) (by kernel_rfl) (by kernel_rfl) (by kernel_rfl) (by kernel_rfl) (fun _ _ _ h => h) (Or.inl ⟨by kernel_rfl, ?h2_42⟩) hHeld ?r2_42
              case h2_42 => (intro w hSw; (try dsimp only at hSw); go_simp; try with_reducible rfl)
              try simp only [Act.put, List.setIfInBounds_toArray, List.set_cons_zero, List.set_cons_succ]
              refine wpAnyH_take (i := 43) (oi := { dst := some 141, op := Op.pick (Operand.tmp 129) (Operand.const (Value.bool true)) (Operand.tmp 140), type := 4, pos := "law.go:157", after := #[{ on := 31, ground := Ground.data }, { on := 42, ground := Ground.data }], guard := none }) (v := ?v2_43) (by kernel_rfl) (by kernel_rfl) (by kernel_rfl) (by kernel_rfl) (fun _ _ _ h => h) (Or.inl ⟨by kernel_rfl, ?h2_43⟩) hHeld ?r2_43
              case h2_43 => (intro w hSw; (try dsimp only at hSw); go_simp; try with_reducible rfl)
              try simp only [Act.put, List.setIfInBounds_toArray, List.set_cons_zero, List.set_cons_succ]
              refine wpAnyH_done (by kernel_rfl) ?_ _
              have HH := Lib.hid hHeld.2.2
              clear hHeld hS ha hbj
              all_goals go_wp2_with fail
              go_roundw
              case rel => exact ⟨j + 1, by omega, by go_num, HH.out⟩
              case measure => simp [intOf]; omega
            · have HB := Lib.hid (below_then hb3 hbj)
              clear hbj
              go_wp2_with fail
              go_at_call 11; refine (HE.out _).mono ?_; rintro e w6 ⟨rfl, hb6⟩
              go_wp2_with fail
              go_at_call 12; refine (HL.out _).mono ?_; rintro e w7 ⟨rfl, hb7⟩
              go_wp2_with fail
              go_at_call 8; refine (awake_any _).mono ?_; rintro e w8 ⟨rfl, hb8⟩
              go_wp2_with fail
              go_ret
              exact ⟨rfl, below_then (below_then (below_then HB.out hb6) hb7) hb8⟩
def namesL : List (List UInt8) := [[98, 111, 111, 107], [66, 111, 111, 107], [112, 108, 97, 121], [112, 108, 97, 121, 115], [65, 110, 110], [97, 49], [], [116, 104, 101], [66], [97, 98, 99, 100, 101, 102, 103, 104, 105, 106, 107, 108, 109, 110, 111, 112], [97, 98, 99, 100, 101, 102, 103, 104, 105, 106, 107, 108, 109, 110, 111, 112, 113], [98, 79, 111, 107]]
def symbolsL : List (List UInt8) := [[66, 111, 111, 107], [98, 111, 111, 107], [75, 110, 111, 119, 115], [83, 108, 101, 101, 112, 115], [97, 110, 110], [], [120]]
/-- Two strings in memory, in the middle of a region. -/
abbrev S2c (w W : World) (ad : Addr) (a : List UInt8) (ae : Addr) (b : List UInt8) : Prop := W.cell? ad = some (str a) ∧ ad.block < W.heap.size ∧ W.cell? ae = some (str b) ∧ ae.block < W.heap.size ∧ Below w.heap.size w W
theorem keep2c {w W W' : World} {ad ae : Addr} {a b : List UInt8} (h : S2c w W ad a ae b) (hb : Below W.heap.size W W') : S2c w W' ad a ae b := ⟨(hb.cell h.2.1).trans h.1, Nat.lt_of_lt_of_le h.2.1 hb.size, (hb.cell h.2.2.2.1).trans h.2.2.1, Nat.lt_of_lt_of_le h.2.2.2.1 hb.size, below_then h.2.2.2.2 hb⟩
theorem start2c {w W : World} {ad ae : Addr} {a b : List UInt8} (h : S2c w W ad a ae b) : S2c w W.drew ad a ae b := ⟨h.1, h.2.1, h.2.2.1, h.2.2.2.1, h.2.2.2.2.drew⟩
/-- A string and an entry's box, in the middle of a region. -/
abbrev S4c (w W : World) (ad : Addr) (a : List UInt8) (B : Nat) (e : Ent) : Prop := W.cell? ad = some (str a) ∧ ad.block < W.heap.size ∧ W.cell? ⟨B, 0, none⟩ = some (str e.1) ∧ W.cell? ⟨B, 1, none⟩ = some (byteV e.2.1) ∧ W.cell? ⟨B, 2, none⟩ = some (str e.2.2) ∧ B < W.heap.size ∧ Below w.heap.size w W
theorem keep4c {w W W' : World} {ad : Addr} {a : List UInt8} {B : Nat} {e : Ent} (h : S4c w W ad a B e) (hb : Below W.heap.size W W') : S4c w W' ad a B e := by
  obtain ⟨h1, h2, h3, h4, h5, h6, h7⟩ := h
  exact ⟨(hb.cell h2).trans h1, Nat.lt_of_lt_of_le h2 hb.size, (hb.cell (p := ⟨B, 0, none⟩) h6).trans h3, (hb.cell (p := ⟨B, 1, none⟩) h6).trans h4, (hb.cell (p := ⟨B, 2, none⟩) h6).trans h5, Nat.lt_of_lt_of_le h6 hb.size, below_then h7 hb⟩
theorem start4c {w W : World} {ad : Addr} {a : List UInt8} {B : Nat} {e : Ent} (h : S4c w W ad a B e) : S4c w W.drew ad a B e := ⟨h.1, h.2.1, h.2.2.1, h.2.2.2.1, h.2.2.2.2.1, h.2.2.2.2.2.1, h.2.2.2.2.2.2.drew⟩
theorem tells_ex (e : Ent) (tok : List UInt8) (A : Option Addr) (w : World) (hx : e.1.length ≤ 1000 ∧ e.2.2.length ≤ 1000) (hr : Reads w w.heap.size 3 A 12 (flat exL)) :
    Calls Tryz.prog 7 #[.slice A 12 12, .agg #[str e.1, byteV e.2.1, str e.2.2], str tok] w fun e w' => e = .returned (.bool true) ∧ Below w.heap.size w w' :=
  tells_any exL e tok A 12 w (by decide) (by decide) hx hr
theorem tells_one (e o : Ent) (tok : List UInt8) (g : Nat) (w : World) (ho : o.1.length ≤ 1000 ∧ o.2.2.length ≤ 1000) (hx : e.1.length ≤ 1000 ∧ e.2.2.length ≤ 1000) (hr : Reads w w.heap.size 3 (some ⟨g, 0, none⟩) ([o] : List Ent).length (flat [o])) :
    Calls Tryz.prog 7 #[.slice (some ⟨g, 0, none⟩) 1 1, .agg #[str e.1, byteV e.2.1, str e.2.2], str tok] w fun e w' => e = .returned (.bool true) ∧ Below w.heap.size w w' :=
  tells_any [o] e tok _ 1 w (by simp) (fun x h => by obtain rfl := List.mem_singleton.1 h; exact ho) hx hr
set_option maxRecDepth 100000 in
set_option maxHeartbeats 6400000 in
theorem entries_any (w : World) : Calls Tryz.prog 11 #[] w fun e w' => e = .returned (.bool true) ∧ Below w.heap.size w w' := by
  go_enter Tryz.func11, Tryz.ntmps11
  go_wp2_with fail
  obtain ⟨Wa, hWa⟩ : ∃ Wa : World, Wa = w.alloc (.cells #[str [98, 111, 111, 107], str [66, 111, 111, 107], str [112, 108, 97, 121], str [112, 108, 97, 121, 115], str [65, 110, 110], str [97, 49], str [], str [116, 104, 101], str [66], str [97, 98, 99, 100, 101, 102, 103, 104, 105, 106, 107, 108, 109, 110, 111, 112], str [97, 98, 99, 100, 101, 102, 103, 104, 105, 106, 107, 108, 109, 110, 111, 112, 113], str [98, 79, 111, 107]] 9) := ⟨_, rfl⟩
  obtain ⟨W2, hW2⟩ : ∃ W2 : World, W2 = Wa.alloc (.cells #[str [66, 111, 111, 107], str [98, 111, 111, 107], str [75, 110, 111, 119, 115], str [83, 108, 101, 101, 112, 115], str [97, 110, 110], str [], str [120]] 9) := ⟨_, rfl⟩
  have hrn1 : Reads Wa Wa.heap.size 1 (some ⟨w.heap.size, 0, none⟩) namesL.length (namesL.map str) := by subst hWa; exact Reads.new2 w 9 1 12 _ _ rfl rfl
  have hba : Below Wa.heap.size Wa W2 := by subst hW2; exact (Below.refl _ _).alloc (Nat.le_refl _) _
  have hrn := hrn1.later hba
  have hrs : Reads W2 W2.heap.size 1 (some ⟨Wa.heap.size, 0, none⟩) symbolsL.length (symbolsL.map str) := by subst hW2; exact Reads.new2 Wa 9 1 7 _ _ rfl rfl
  have hb1 : Below w.heap.size w W2 := by
    have h0 : Below w.heap.size w Wa := by subst hWa; exact (Below.refl _ _).alloc (Nat.le_refl _) _
    exact below_then h0 hba
  have hza : Wa.heap.size = w.heap.size + 1 := by rw [hWa]; simp
  have hz : W2.heap.size = w.heap.size + 2 := by rw [hW2]; simp [hza]
  rw [← hWa]
  rw [← hW2]
  obtain ⟨an, han⟩ : ∃ an : Addr, an = ⟨w.heap.size, 0, none⟩ := ⟨_, rfl⟩
  obtain ⟨ay, hay⟩ : ∃ ay : Addr, ay = ⟨w.heap.size + 1, 0, none⟩ := ⟨_, rfl⟩
  rw [hza] at hrs
  rw [← han] at hrn ⊢
  rw [← hay] at hrs ⊢
  have hanb : an.block < W2.heap.size := by rw [han, hz]; simp
  have hayb : ay.block < W2.heap.size := by rw [hay, hz]; simp
  clear hW2 hWa han hay hz hza hrn1 hba
  go_loopw [3] (fun i wr => ∃ k : Nat, k ≤ 588 ∧ i = .int .i64 k ∧ Below W2.heap.size W2 wr) (fun i _ => 588 - (intOf i).toNat)
  case atStart => exact ⟨0, by omega, rfl, Below.refl _ _⟩
  case round =>
    obtain ⟨k, hk, rfl, hb⟩ := hrel
    by_cases hlt : k < 588
    · obtain ⟨x, hx, hxl, -⟩ := (hrn.later hb).strAt (k := k / 7 % 12) (n := k / 7 % 12) (m := 17) (by show _ < 12; omega) (by decide) rfl
      obtain ⟨y, hy, hyl, -⟩ := (hrs.later hb).strAt (k := k / 84) (n := k / 84) (m := 6) (by show _ < 7; omega) (by decide) rfl
      have hw1 : IntKind.i64.wrap ((k : Int) / 7) = (k : Int) / 7 := IntWalk.i64_in _ (by omega)
      have hw2 : Int.tmod ((k : Int) / 7) 12 = (k : Int) / 7 % 12 := Int.tmod_eq_emod_of_nonneg (by omega)
      have hw3 : (0 : Int) ≤ (k : Int) / 7 % 12 := by omega
      have hw4 : (k : Int) / 7 % 12 < 12 := by omega
      have hw5 : ((k : Int) / 7 % 12).toNat = k / 7 % 12 := by omega
      have hw6 : IntKind.i64.wrap ((k : Int) / 84) = (k : Int) / 84 := IntWalk.i64_in _ (by omega)
      have hw7 : (0 : Int) ≤ (k : Int) / 84 := by omega
      have hw8 : (k : Int) / 84 < 7 := by omega
      have hw9 : ((k : Int) / 84).toNat = k / 84 := by omega
      obtain ⟨ct, hct⟩ : ∃ ct : UInt8, IntKind.u8.wrap (Int.tmod (k : Int) 7) = (ct.toNat : Int) := ⟨UInt8.ofNat (k % 7), by
        have h : k % 7 < 7 := Nat.mod_lt _ (by omega)
        show IntKind.u8.wrap ((k % 7 : Nat) : Int) = _
        unfold IntKind.wrap
        simp [IntKind.bits, IntKind.signed]⟩
      have hS : S2c W2 _ (an.add (k / 7 % 12)) x (ay.add (k / 84)) y := ⟨hx, by rw [block_of_add]; exact Nat.lt_of_lt_of_le hanb hb.size, hy, by rw [block_of_add]; exact Nat.lt_of_lt_of_le hayb hb.size, hb⟩
      go_wp2_with fail
      refine wp_region_held_drew (S := fun W => S2c W2 W (an.add (k / 7 % 12)) x (ay.add (k / 84)) y) (by kernel_rfl) (by exact start2c hS) (fun hHeld => ?_)
      refine wpAnyH_take (i := 0) (oi := { dst := some 12, op := Op.move (Operand.tmp 1), type := 29, pos := "law.go:168", after := #[], guard := none }) (v := ?v3_0) (by kernel_rfl) (by kernel_rfl) (by kernel_rfl) (by kernel_rfl) (fun _ _ _ h => h) (Or.inl ⟨by kernel_rfl, ?h3_0⟩) hHeld ?r3_0
      case h3_0 => (intro w hSw; (try dsimp only at hSw); go_simp; try with_reducible rfl)
      try simp only [Act.put, List.setIfInBounds_toArray, List.set_cons_zero, List.set_cons_succ]
      refine wpAnyH_take (i := 1) (oi := { dst := some 13, op := Op.move (Operand.tmp 3), type := 3, pos := "law.go:168", after := #[], guard := none }) (v := ?v3_1) (by kernel_rfl) (by kernel_rfl) (by kernel_rfl) (by kernel_rfl) (fun _ _ _ h => h) (Or.inl ⟨by kernel_rfl, ?h3_1⟩) hHeld ?r3_1
      case h3_1 => (intro w hSw; (try dsimp only at hSw); go_simp; try with_reducible rfl)
      try simp only [Act.put, List.setIfInBounds_toArray, List.set_cons_zero, List.set_cons_succ]
      refine wpAnyH_take (i := 2) (oi := { dst := some 14, op := Op.binOp BinOp.quo 3 (Operand.tmp 13) (Operand.const (Value.int IntKind.i64 7)) 3, type := 3, pos := "law.go:168", after := #[{ on := 1, ground := Ground.data }], guard := none }) (v := ?v3_2) (by kernel_rfl) (by kernel_rfl) (by kernel_rfl) (by kernel_rfl) (fun _ _ _ h => h) (Or.inl ⟨by kernel_rfl, ?h3_2⟩) hHeld ?r3_2
      case h3_2 => (intro w hSw; (try dsimp only at hSw); go_simp; try with_reducible rfl)
      try simp only [Act.put, List.setIfInBounds_toArray, List.set_cons_zero, List.set_cons_succ]
      refine wpAnyH_take (i := 3) (oi := { dst := some 15, op := Op.binOp BinOp.rem 3 (Operand.tmp 14) (Operand.const (Value.int IntKind.i64 12)) 3, type := 3, pos := "law.go:168", after := #[{ on := 2, ground := Ground.data }], guard := none }) (v := ?v3_3) (by kernel_rfl) (by kernel_rfl) (by kernel_rfl) (by kernel_rfl) (fun _ _ _ h => h) (Or.inl ⟨by kernel_rfl, ?h3_3⟩) hHeld ?r3_3
      case h3_3 => (intro w hSw; (try dsimp only at hSw); go_simp; try with_reducible rfl)
      try simp only [Act.put, List.setIfInBounds_toArray, List.set_cons_zero, List.set_cons_succ]
      refine wpAnyH_take (i := 4) (oi := { dst := some 16, op := Op.indexAddr 29 (Operand.tmp 12) (Operand.tmp 15), type := 0, pos := "law.go:168", after := #[{ on := 0, ground := Ground.data }, { on := 3, ground := Ground.data }], guard := none }) (v := ?v3_4) (by kernel_rfl) (by kernel_rfl) (by kernel_rfl) (by kernel_rfl) (fun _ _ _ h => h) (Or.inl ⟨by kernel_rfl, ?h3_4⟩) hHeld ?r3_4
      case h3_4 => (intro w hSw; (try dsimp only at hSw); go_simp; try with_reducible rfl)
      try simp only [Act.put, List.setIfInBounds_toArray, List.set_cons_zero, List.set_cons_succ]
      refine wpAnyH_take (i := 5) (oi := { dst := some 17, op := Op.load 9 (Operand.tmp 16), type := 9, pos := "law.go:168", after := #[{ on := 4, ground := Ground.data }], guard := none }) (v := ?v3_5) (by kernel_rfl) (by kernel_rfl) (by kernel_rfl) (by kernel_rfl) (fun _ _ _ h => h) (Or.inl ⟨by kernel_rfl, ?h3_5⟩) hHeld ?r3_5
      case h3_5 => (intro w hSw; (try dsimp only at hSw); go_simp; try with_reducible rfl)
      try simp only [Act.put, List.setIfInBounds_toArray, List.set_cons_zero, List.set_cons_succ]
      refine wpAnyH_take (i := 6) (oi := { dst := some 18, op := Op.move (Operand.tmp 3), type := 3, pos := "law.go:168", after := #[], guard := none }) (v := ?v3_6) (by kernel_rfl) (by kernel_rfl) (by kernel_rfl) (by kernel_rfl) (fun _ _ _ h => h) (Or.inl ⟨by kernel_rfl, ?h3_6⟩) hHeld ?r3_6
      case h3_6 => (intro w hSw; (try dsimp only at hSw); go_simp; try with_reducible rfl)
      try simp only [Act.put, List.setIfInBounds_toArray, List.set_cons_zero, List.set_cons_succ]
      refine wpAnyH_take (i := 7) (oi := { dst := some 19, op := Op.binOp BinOp.rem 3 (Operand.tmp 18) (Operand.const (Value.int IntKind.i64 7)) 3, type := 3, pos := "law.go:168", after := #[{ on := 6, ground := Ground.data }], guard := none }) (v := ?v3_7) (by kernel_rfl) (by kernel_rfl) (by kernel_rfl) (by kernel_rfl) (fun _ _ _ h => h) (Or.inl ⟨by kernel_rfl, ?h3_7⟩) hHeld ?r3_7
      case h3_7 => (intro w hSw; (try dsimp only at hSw); go_simp; try with_reducible rfl)
      try simp only [Act.put, List.setIfInBounds_toArray, List.set_cons_zero, List.set_cons_succ]
      refine wpAnyH_take (i := 8) (oi := { dst := some 20, op := Op.convert 3 5 (Operand.tmp 19), type := 5, pos := "law.go:168", after := #[{ on := 7, ground := Ground.data }], guard := none }) (v := ?v3_8) (by kernel_rfl) (by kernel_rfl) (by kernel_rfl) (by kernel_rfl) (fun _ _ _ h => h) (Or.inl ⟨by kernel_rfl, ?h3_8⟩) hHeld ?r3_8
      case h3_8 => (intro w hSw; (try dsimp only at hSw); go_simp; try with_reducible rfl)
      try simp only [Act.put, List.setIfInBounds_toArray, List.set_cons_zero, List.set_cons_succ]
      refine wpAnyH_take (i := 9) (oi := { dst := some 21, op := Op.move (Operand.tmp 2), type := 29, pos := "law.go:168", after := #[], guard := none }) (v := ?v3_9) (by kernel_rfl) (by kernel_rfl) (by kernel_rfl) (by kernel_rfl) (fun _ _ _ h => h) (Or.inl ⟨by kernel_rfl, ?h3_9⟩) hHeld ?r3_9
      case h3_9 => (intro w hSw; (try dsimp only at hSw); go_simp; try with_reducible rfl)
      try simp only [Act.put, List.setIfInBounds_toArray, List.set_cons_zero, List.set_cons_succ]
      refine wpAnyH_take (i := 10) (oi := { dst := some 22, op := Op.move (Operand.tmp 3), type := 3, pos := "law.go:168", after := #[], guard := none }) (v := ?v3_10) (by kernel_rfl) (by kernel_rfl) (by kernel_rfl) (by kernel_rfl) (fun _ _ _ h => h) (Or.inl ⟨by kernel_rfl, ?h3_10⟩) hHeld ?r3_10
      case h3_10 => (intro w hSw; (try dsimp only at hSw); go_simp; try with_reducible rfl)
      try simp only [Act.put, List.setIfInBounds_toArray, List.set_cons_zero, List.set_cons_succ]
      refine wpAnyH_take (i := 11) (oi := { dst := some 23, op := Op.binOp BinOp.quo 3 (Operand.tmp 22) (Operand.const (Value.int IntKind.i64 84)) 3, type := 3, pos := "law.go:168", after := #[{ on := 10, ground := Ground.data }], guard := none }) (v := ?v3_11) (by kernel_rfl) (by kernel_rfl) (by kernel_rfl) (by kernel_rfl) (fun _ _ _ h => h) (Or.inl ⟨by kernel_rfl, ?h3_11⟩) hHeld ?r3_11
      case h3_11 => (intro w hSw; (try dsimp only at hSw); go_simp; try with_reducible rfl)
      try simp only [Act.put, List.setIfInBounds_toArray, List.set_cons_zero, List.set_cons_succ]
      refine wpAnyH_take (i := 12) (oi := { dst := some 24, op := Op.indexAddr 29 (Operand.tmp 21) (Operand.tmp 23), type := 0, pos := "law.go:168", after := #[{ on := 9, ground := Ground.data }, { on := 11, ground := Ground.data }], guard := none }) (v := ?v3_12) (by kernel_rfl) (by kernel_rfl) (by kernel_rfl) (by kernel_rfl) (fun _ _ _ h => h) (Or.inl ⟨by kernel_rfl, ?h3_12⟩) hHeld ?r3_12
      case h3_12 => (intro w hSw; (try dsimp only at hSw); go_simp; try with_reducible rfl)
      try simp only [Act.put, List.setIfInBounds_toArray, List.set_cons_zero, List.set_cons_succ]
      refine wpAnyH_take (i := 13) (oi := { dst := some 25, op := Op.load 9 (Operand.tmp 24), type := 9, pos := "law.go:168", after := #[{ on := 12, ground := Ground.data }], guard := none }) (v := ?v3_13) (by kernel_rfl) (by kernel_rfl) (by kernel_rfl) (by kernel_rfl) (fun _ _ _ h => h) (Or.inl ⟨by kernel_rfl, ?h3_13⟩) hHeld ?r3_13
      case h3_13 => (intro w hSw; (try dsimp only at hSw); go_simp; try with_reducible rfl)
      try simp only [Act.put, List.setIfInBounds_toArray, List.set_cons_zero, List.set_cons_succ]
      refine wpAnyH_take (i := 14) (oi := { dst := some 26, op := Op.build 24 #[(0, Operand.tmp 17), (1, Operand.tmp 20), (2, Operand.tmp 25)], type := 24, pos := "law.go:168", after := #[{ on := 5, ground := Ground.data }, { on := 8, ground := Ground.data }, { on := 13, ground := Ground.data }], guard := none }) (v := ?v3_14) (by kernel_rfl) (by kernel_rfl) (by kernel_rfl) (by kernel_rfl) (fun _ _ _ h => h) (Or.inl ⟨by kernel_rfl, ?h3_14⟩) hHeld ?r3_14
      case h3_14 => (intro w hSw; (try dsimp only at hSw); go_simp; try with_reducible rfl)
      try simp only [Act.put, List.setIfInBounds_toArray, List.set_cons_zero, List.set_cons_succ]
      refine wpAnyH_ready (rs := [15]) (by kernel_rfl) (by simp) ?_
      refine AllReadyH.cons (i := 15) (o := { dst := some 4, op := Op.alloc 24, type := 0, pos := "law.go:168", after := #[], guard := none }) rfl (fun K hK => ?_) AllReadyH.nil
      go_simp
      have hd15 : Below wr.drew.heap.size wr.drew ((wr.alloc (.cells #[.string ⟨#[]⟩, .int .u8 0, .string ⟨#[]⟩] 24)).drew) := (Below.refl wr.drew.heap.size wr.drew).alloc (Nat.le_refl _) _
      refine hK.out _ _ (by first | exact keep2c (by assumption) (by assumption) | exact hS16) (fun hHeld => ?_)
      clear hK K
      try simp only [Act.put, List.setIfInBounds_toArray, List.set_cons_zero, List.set_cons_succ]
      refine wpAnyH_ready (rs := [16]) (by kernel_rfl) (by simp) ?_
      refine AllReadyH.cons (i := 16) (o := { dst := none, op := Op.store 24 (Operand.tmp 4) (Operand.tmp 26), type := 0, pos := "law.go:168", after := #[{ on := 15, ground := Ground.data }, { on := 14, ground := Ground.data }, { on := 0, ground := Ground.phase }, { on := 1, ground := Ground.phase }, { on := 2, ground := Ground.phase }, { on := 3, ground := Ground.phase }, { on := 4, ground := Ground.phase }, { on := 5, ground := Ground.phase }, { on := 6, ground := Ground.phase }, { on := 7, ground := Ground.phase }, { on := 8, ground := Ground.phase }, { on := 9, ground := Ground.phase }, { on := 10, ground := Ground.phase }, { on := 11, ground := Ground.phase }, { on := 12, ground := Ground.phase }, { on := 13, ground := Ground.phase }, { on := 14, ground := Ground.phase }, { on := 15, ground := Ground.phase }], guard := none }) rfl (fun K hK => ?_) AllReadyH.nil
      go_simp
      have hb16 : Below wr.heap.size wr ((wr.alloc (.cells #[str x, byteV ct, str y] 24)).drew) := ((Below.refl _ _).alloc (Nat.le_refl _) _).drew
      have hS16 := keep2c hS hb16
      refine hK.out _ _ (by first | exact keep2c (by assumption) (by assumption) | exact hS16) (fun hHeld => ?_)
      clear hK K
      try simp only [Act.put, List.setIfInBounds_toArray, List.set_cons_zero, List.set_cons_succ]
      refine wpAnyH_done (by kernel_rfl) ?_ _
      obtain ⟨W3, hW3⟩ : ∃ W3 : World, W3 = (wr.alloc (.cells #[str x, byteV ct, str y] 24)).drew := ⟨_, rfl⟩
      have hbk : Blk W3 wr.heap.size 24 #[str x, byteV ct, str y] := by rw [hW3]; exact (Blk.new _ _ _).drew
      rw [← hW3] at hHeld ⊢
      have hb3 := hHeld.2.2.2.2
      have hrn3 := hrn.later hb3
      have han3 := Nat.lt_of_lt_of_le hanb hb3.size
      clear hHeld hS hb16 hd15 hS16 hW3 hw1 hw2 hw3 hw4 hw5 hw6 hw7 hw8 hw9 hct hx hy
      go_wp2_with fail
      obtain ⟨gb, hgb⟩ : ∃ gb : Nat, gb = wr.heap.size := ⟨_, rfl⟩
      rw [← hgb] at hbk ⊢
      clear hgb
      go_loopw [5] (fun i wr' => ∃ p : Nat, p ≤ 14 ∧ i = .int .i64 p ∧ Below W3.heap.size W3 wr') (fun i _ => 15 - (intOf i).toNat)
      case atStart => exact ⟨k % 3, by omega, by go_num, Below.refl _ _⟩
      case round =>
        obtain ⟨p, hp, rfl, hbp⟩ := hrel
        by_cases hpt : p < 12
        · obtain ⟨t, ht, htl, -⟩ := (hrn3.later hbp).strAt (k := p) (n := p) (m := 17) (by show _ < 12; omega) (by decide) rfl
          have hbx := hbk.later hbp
          have hS : S4c W3 wr (an.add p) t gb (x, ct, y) := ⟨ht, by rw [block_of_add]; exact Nat.lt_of_lt_of_le han3 hbp.size, hbx.cell 0, hbx.cell 1, hbx.cell 2, hbx.lt, hbp⟩
          obtain ⟨c2, hc2⟩ : ∃ c2 : UInt8, IntKind.u8.wrap (4 + IntKind.u8.wrap (Int.tmod (p : Int) 2)) = (c2.toNat : Int) := by
            have h : p % 2 < 2 := Nat.mod_lt _ (by omega)
            have e : Int.tmod (p : Int) 2 = ((p % 2 : Nat) : Int) := rfl
            rw [e]
            rcases Nat.lt_or_ge (p % 2) 1 with h1 | h1
            · rw [show p % 2 = 0 by omega]; exact ⟨4, by decide⟩
            · rw [show p % 2 = 1 by omega]; exact ⟨5, by decide⟩
          clear hbx ht
          go_wp2_with fail
          refine wp_region_held_drew (S := fun W => S4c W3 W (an.add p) t gb (x, ct, y)) (by kernel_rfl) (by exact start4c hS) (fun hHeld => ?_)
          refine wpAnyH_take (i := 1) (oi := { dst := some 36, op := Op.load 24 (Operand.tmp 4), type := 24, pos := "law.go:170", after := #[], guard := none }) (v := ?v4_1) (by kernel_rfl) (by kernel_rfl) (by kernel_rfl) (by kernel_rfl) (fun _ _ _ h => h) (Or.inl ⟨by kernel_rfl, ?h4_1⟩) hHeld ?r4_1
          case h4_1 => (intro w hSw; (try dsimp only at hSw); go_simp; try with_reducible rfl)
          try simp only [Act.put, List.setIfInBounds_toArray, List.set_cons_zero, List.set_cons_succ]
          refine wpAnyH_take (i := 2) (oi := { dst := some 37, op := Op.move (Operand.tmp 1), type := 29, pos := "law.go:170", after := #[], guard := none }) (v := ?v4_2) (by kernel_rfl) (by kernel_rfl) (by kernel_rfl) (by kernel_rfl) (fun _ _ _ h => h) (Or.inl ⟨by kernel_rfl, ?h4_2⟩) hHeld ?r4_2
          case h4_2 => (intro w hSw; (try dsimp only at hSw); go_simp; try with_reducible rfl)
          try simp only [Act.put, List.setIfInBounds_toArray, List.set_cons_zero, List.set_cons_succ]
          refine wpAnyH_take (i := 3) (oi := { dst := some 38, op := Op.move (Operand.tmp 5), type := 3, pos := "law.go:170", after := #[], guard := none }) (v := ?v4_3) (by kernel_rfl) (by kernel_rfl) (by kernel_rfl) (by kernel_rfl) (fun _ _ _ h => h) (Or.inl ⟨by kernel_rfl, ?h4_3⟩) hHeld ?r4_3
          case h4_3 => (intro w hSw; (try dsimp only at hSw); go_simp; try with_reducible rfl)
          try simp only [Act.put, List.setIfInBounds_toArray, List.set_cons_zero, List.set_cons_succ]
          refine wpAnyH_take (i := 4) (oi := { dst := some 39, op := Op.indexAddr 29 (Operand.tmp 37) (Operand.tmp 38), type := 0, pos := "law.go:170", after := #[{ on := 2, ground := Ground.data }, { on := 3, ground := Ground.data }], guard := none }) (v := ?v4_4) (by kernel_rfl) (by kernel_rfl) (by kernel_rfl) (by kernel_rfl) (fun _ _ _ h => h) (Or.inl ⟨by kernel_rfl, ?h4_4⟩) hHeld ?r4_4
          case h4_4 => (intro w hSw; (try dsimp only at hSw); go_simp; try with_reducible rfl)
          try simp only [Act.put, List.setIfInBounds_toArray, List.set_cons_zero, List.set_cons_succ]
          refine wpAnyH_take (i := 5) (oi := { dst := some 40, op := Op.load 9 (Operand.tmp 39), type := 9, pos := "law.go:170", after := #[{ on := 4, ground := Ground.data }], guard := none }) (v := ?v4_5) (by kernel_rfl) (by kernel_rfl) (by kernel_rfl) (by kernel_rfl) (fun _ _ _ h => h) (Or.inl ⟨by kernel_rfl, ?h4_5⟩) hHeld ?r4_5
          case h4_5 => (intro w hSw; (try dsimp only at hSw); go_simp; try with_reducible rfl)
          try simp only [Act.put, List.setIfInBounds_toArray, List.set_cons_zero, List.set_cons_succ]
          refine wpAnyH_ready (rs := [0]) (by kernel_rfl) (by simp) ?_
          refine AllReadyH.cons (i := 0) (o := { dst := some 35, op := Op.call { callee := Callee.value (Operand.func 29), args := #[], argTypes := #[] }, type := 22, pos := "law.go:170", after := #[], guard := none }) rfl (fun K hK => ?_) AllReadyH.nil
          go_simp
          refine (example_any _).mono ?_
          rintro e' v1 ⟨AE, rfl, hrE, hd1⟩
          have HRE := Lib.hid hrE
          clear hrE
          go_wp2_with fail
          refine hK.out _ _ (by exact keep4c (by assumption) (by assumption)) (fun hHeld => ?_)
          clear hK K
          try simp only [Act.put, List.setIfInBounds_toArray, List.set_cons_zero, List.set_cons_succ]
          refine wpAnyH_ready (rs := [6]) (by kernel_rfl) (by simp) ?_
          refine AllReadyH.cons (i := 6) (o := { dst := some 41, op := Op.call { callee := Callee.value (Operand.func 7), args := #[Operand.tmp 35, Operand.tmp 36, Operand.tmp 40], argTypes := #[22, 24, 9] }, type := 4, pos := "law.go:170", after := #[{ on := 0, ground := Ground.data }, { on := 1, ground := Ground.data }, { on := 5, ground := Ground.data }, { on := 0, ground := Ground.chain }], guard := none }) rfl (fun K hK => ?_) AllReadyH.nil
          go_simp
          refine (tells_ex (x, ct, y) t AE _ ⟨by show x.length ≤ _; omega, by show y.length ≤ _; omega⟩ HRE.out).mono ?_
          rintro e' v2 ⟨rfl, hd2⟩
          go_wp2_with fail
          refine hK.out _ _ (by exact keep4c (by assumption) (by assumption)) (fun hHeld => ?_)
          clear hK K
          try simp only [Act.put, List.setIfInBounds_toArray, List.set_cons_zero, List.set_cons_succ]
          refine wpAnyH_take (i := 7) (oi := { dst := some 42, op := Op.unOp UnOp.not 4 (Operand.tmp 41), type := 4, pos := "law.go:170", after := #[{ on := 6, ground := Ground.data }], guard := none }) (v := ?v4_7) (by kernel_rfl) (by kernel_rfl) (by kernel_rfl) (by kernel_rfl) (fun _ _ _ h => h) (Or.inl ⟨by kernel_rfl, ?h4_7⟩) hHeld ?r4_7
          case h4_7 => (intro w hSw; (try dsimp only at hSw); go_simp; try with_reducible rfl)
          try simp only [Act.put, List.setIfInBounds_toArray, List.set_cons_zero, List.set_cons_succ]
          refine wpAnyH_take (i := 8) (oi := { dst := some 43, op := Op.move (Operand.tmp 42), type := 4, pos := "law.go:170", after := #[{ on := 7, ground := Ground.data }, { on := 6, ground := Ground.chain }], guard := none }) (v := ?v4_8) (by kernel_rfl) (by kernel_rfl) (by kernel_rfl) (by kernel_rfl) (fun _ _ _ h => h) (Or.inl ⟨by kernel_rfl, ?h4_8⟩) hHeld ?r4_8
          case h4_8 => (intro w hSw; (try dsimp only at hSw); go_simp; try with_reducible rfl)
          try simp only [Act.put, List.setIfInBounds_toArray, List.set_cons_zero, List.set_cons_succ]
          refine wpAnyH_take (i := 9) (oi := { dst := some 44, op := Op.load 24 (Operand.tmp 4), type := 24, pos := "law.go:170", after := #[{ on := 8, ground := Ground.guard }], guard := some (8, false) }) (v := ?v4_9) (by kernel_rfl) (by kernel_rfl) (by kernel_rfl) (by kernel_rfl) (fun _ _ _ h => h) (Or.inl ⟨by kernel_rfl, ?h4_9⟩) hHeld ?r4_9
          case h4_9 => (intro w hSw; (try dsimp only at hSw); go_simp; try with_reducible rfl)
          try simp only [Act.put, List.setIfInBounds_toArray, List.set_cons_zero, List.set_cons_succ]
          refine wpAnyH_take (i := 11) (oi := { dst := some 46, op := Op.move (Operand.tmp 5), type := 3, pos := "law.go:170", after := #[{ on := 8, ground := Ground.guard }], guard := some (8, false) }) (v := ?v4_11) (by kernel_rfl) (by kernel_rfl) (by kernel_rfl) (by kernel_rfl) (fun _ _ _ h => h) (Or.inl ⟨by kernel_rfl, ?h4_11⟩) hHeld ?r4_11
          case h4_11 => (intro w hSw; (try dsimp only at hSw); go_simp; try with_reducible rfl)
          try simp only [Act.put, List.setIfInBounds_toArray, List.set_cons_zero, List.set_cons_succ]
          refine wpAnyH_take (i := 12) (oi := { dst := some 47, op := Op.binOp BinOp.rem 3 (Operand.tmp 46) (Operand.const (Value.int IntKind.i64 2)) 3, type := 3, pos := "law.go:170", after := #[{ on := 11, ground := Ground.data }, { on := 8, ground := Ground.guard }], guard := some (8, false) }) (v := ?v4_12) (by kernel_rfl) (by kernel_rfl) (by kernel_rfl) (by kernel_rfl) (fun _ _ _ h => h) (Or.inl ⟨by kernel_rfl, ?h4_12⟩) hHeld ?r4_12
          case h4_12 => (intro w hSw; (try dsimp only at hSw); go_simp; try with_reducible rfl)
          try simp only [Act.put, List.setIfInBounds_toArray, List.set_cons_zero, List.set_cons_succ]
          refine wpAnyH_take (i := 13) (oi := { dst := some 48, op := Op.convert 3 5 (Operand.tmp 47), type := 5, pos := "law.go:170", after := #[{ on := 12, ground := Ground.data }, { on := 8, ground := Ground.guard }], guard := some (8, false) }) (v := ?v4_13) (by kernel_rfl) (by kernel_rfl) (by kernel_rfl) (by kernel_rfl) (fun _ _ _ h => h) (Or.inl ⟨by kernel_rfl, ?h4_13⟩) hHeld ?r4_13
          case h4_13 => (intro w hSw; (try dsimp only at hSw); go_simp; try with_reducible rfl)
          try simp only [Act.put, List.setIfInBounds_toArray, List.set_cons_zero, List.set_cons_succ]
          refine wpAnyH_take (i := 14) (oi := { dst := some 49, op := Op.binOp BinOp.add 5 (Operand.const (Value.int IntKind.u8 4)) (Operand.tmp 48) 5, type := 5, pos := "law.go:170", after := #[{ on := 13, ground := Ground.data }, { on := 8, ground := Ground.guard }], guard := some (8, false) }) (v := ?v4_14) (by kernel_rfl) (by kernel_rfl) (by kernel_rfl) (by kernel_rfl) (fun _ _ _ h => h) (Or.inl ⟨by kernel_rfl, ?h4_14⟩) hHeld ?r4_14
          case h4_14 => (intro w hSw; (try dsimp only at hSw); go_simp; try with_reducible rfl)
          try simp only [Act.put, List.setIfInBounds_toArray, List.set_cons_zero, List.set_cons_succ]
          refine wpAnyH_take (i := 15) (oi := { dst := some 50, op := Op.build 24 #[(0, Operand.const (Value.string { data := #[112, 108, 97, 121] })), (1, Operand.tmp 49), (2, Operand.const (Value.string { data := #[66, 111, 111, 107] }))], type := 24, pos := "law.go:170", after := #[{ on := 14, ground := Ground.data }, { on := 8, ground := Ground.guard }], guard := some (8, false) }) (v := ?v4_15) (by kernel_rfl) (by kernel_rfl) (by kernel_rfl) (by kernel_rfl) (fun _ _ _ h => h) (Or.inl ⟨by kernel_rfl, ?h4_15⟩) hHeld ?r4_15
          case h4_15 => (intro w hSw; (try dsimp only at hSw); go_simp; try with_reducible rfl)
          try simp only [Act.put, List.setIfInBounds_toArray, List.set_cons_zero, List.set_cons_succ]
          refine wpAnyH_take (i := 16) (oi := { dst := some 51, op := Op.move (Operand.tmp 1), type := 29, pos := "law.go:170", after := #[{ on := 8, ground := Ground.guard }], guard := some (8, false) }) (v := ?v4_16) (by kernel_rfl) (by kernel_rfl) (by kernel_rfl) (by kernel_rfl) (fun _ _ _ h => h) (Or.inl ⟨by kernel_rfl, ?h4_16⟩) hHeld ?r4_16
          case h4_16 => (intro w hSw; (try dsimp only at hSw); go_simp; try with_reducible rfl)
          try simp only [Act.put, List.setIfInBounds_toArray, List.set_cons_zero, List.set_cons_succ]
          refine wpAnyH_take (i := 17) (oi := { dst := some 52, op := Op.move (Operand.tmp 5), type := 3, pos := "law.go:170", after := #[{ on := 8, ground := Ground.guard }], guard := some (8, false) }) (v := ?v4_17) (by kernel_rfl) (by kernel_rfl) (by kernel_rfl) (by kernel_rfl) (fun _ _ _ h => h) (Or.inl ⟨by kernel_rfl, ?h4_17⟩) hHeld ?r4_17
          case h4_17 => (intro w hSw; (try dsimp only at hSw); go_simp; try with_reducible rfl)
          try simp only [Act.put, List.setIfInBounds_toArray, List.set_cons_zero, List.set_cons_succ]
          refine wpAnyH_take (i := 18) (oi := { dst := some 53, op := Op.indexAddr 29 (Operand.tmp 51) (Operand.tmp 52), type := 0, pos := "law.go:170", after := #[{ on := 16, ground := Ground.data }, { on := 17, ground := Ground.data }, { on := 8, ground := Ground.guard }], guard := some (8, false) }) (v := ?v4_18) (by kernel_rfl) (by kernel_rfl) (by kernel_rfl) (by kernel_rfl) (fun _ _ _ h => h) (Or.inl ⟨by kernel_rfl, ?h4_18⟩) hHeld ?r4_18
          case h4_18 => (intro w hSw; (try dsimp only at hSw); go_simp; try with_reducible rfl)
          try simp only [Act.put, List.setIfInBounds_toArray, List.set_cons_zero, List.set_cons_succ]
          refine wpAnyH_take (i := 19) (oi := { dst := some 54, op := Op.load 9 (Operand.tmp 53), type := 9, pos := "law.go:170", after := #[{ on := 18, ground := Ground.data }, { on := 8, ground := Ground.guard }], guard := some (8, false) }) (v := ?v4_19) (by kernel_rfl) (by kernel_rfl) (by kernel_rfl) (by kernel_rfl) (fun _ _ _ h => h) (Or.inl ⟨by kernel_rfl, ?h4_19⟩) hHeld ?r4_19
          case h4_19 => (intro w hSw; (try dsimp only at hSw); go_simp; try with_reducible rfl)
          try simp only [Act.put, List.setIfInBounds_toArray, List.set_cons_zero, List.set_cons_succ]
          refine wpAnyH_ready (rs := [10]) (by kernel_rfl) (by simp) ?_
          refine AllReadyH.cons (i := 10) (o := { dst := some 45, op := Op.buildSlice 22 1 #[(0, Operand.tmp 44)], type := 22, pos := "law.go:170", after := #[{ on := 9, ground := Ground.data }, { on := 8, ground := Ground.guard }], guard := some (8, false) }) rfl (fun K hK => ?_) AllReadyH.nil
          go_simp
          have hd10 : Below v2.heap.size v2 (v2.alloc (.cells #[str x, byteV ct, str y] 24)) := (Below.refl _ _).alloc (Nat.le_refl _) _
          have HRO := Lib.hid (tone_reads (Blk.new v2 24 #[str x, byteV ct, str y]))
          refine hK.out _ _ (by exact keep4c (by assumption) (by assumption)) (fun hHeld => ?_)
          clear hK K
          try simp only [Act.put, List.setIfInBounds_toArray, List.set_cons_zero, List.set_cons_succ]
          refine wpAnyH_ready (rs := [20]) (by kernel_rfl) (by simp) ?_
          refine AllReadyH.cons (i := 20) (o := { dst := some 55, op := Op.call { callee := Callee.value (Operand.func 7), args := #[Operand.tmp 45, Operand.tmp 50, Operand.tmp 54], argTypes := #[22, 24, 9] }, type := 4, pos := "law.go:170", after := #[{ on := 10, ground := Ground.data }, { on := 15, ground := Ground.data }, { on := 19, ground := Ground.data }, { on := 8, ground := Ground.chain }, { on := 8, ground := Ground.guard }], guard := some (8, false) }) rfl (fun K hK => ?_) AllReadyH.nil
          go_simp
          refine (tells_one ([112, 108, 97, 121], c2, [66, 111, 111, 107]) (x, ct, y) t v2.heap.size _ ⟨by show x.length ≤ _; omega, by show y.length ≤ _; omega⟩ ⟨by simp, by simp⟩ HRO.out).mono ?_
          rintro e' v3 ⟨rfl, hd3⟩
          go_wp2_with fail
          refine hK.out _ _ (by exact keep4c (by assumption) (by assumption)) (fun hHeld => ?_)
          clear hK K
          try simp only [Act.put, List.setIfInBounds_toArray, List.set_cons_zero, List.set_cons_succ]
          refine wpAnyH_take (i := 21) (oi := { dst := some 56, op := Op.unOp UnOp.not 4 (Operand.tmp 55), type := 4, pos := "law.go:170", after := #[{ on := 20, ground := Ground.data }, { on := 8, ground := Ground.guard }], guard := some (8, false) }) (v := ?v4_21) (by kernel_rfl) (by kernel_rfl) (by kernel_rfl) (by kernel_rfl) (fun _ _ _ h => h) (Or.inl ⟨by kernel_rfl, ?h4_21⟩) hHeld ?r4_21
          case h4_21 => (intro w hSw; (try dsimp only at hSw); go_simp; try with_reducible rfl)
          try simp only [Act.put, List.setIfInBounds_toArray, List.set_cons_zero, List.set_cons_succ]
          refine wpAnyH_take (i := 22) (oi := { dst := some 57, op := Op.pick (Operand.tmp 43) (Operand.const (Value.bool true)) (Operand.tmp 56), type := 4, pos := "law.go:170", after := #[{ on := 8, ground := Ground.data }, { on := 21, ground := Ground.data }], guard := none }) (v := ?v4_22) (by kernel_rfl) (by kernel_rfl) (by kernel_rfl) (by kernel_rfl) (fun _ _ _ h => h) (Or.inl ⟨by kernel_rfl, ?h4_22⟩) hHeld ?r4_22
          case h4_22 => (intro w hSw; (try dsimp only at hSw); go_simp; try with_reducible rfl)
          try simp only [Act.put, List.setIfInBounds_toArray, List.set_cons_zero, List.set_cons_succ]
          refine wpAnyH_done (by kernel_rfl) ?_ _
          have HH := Lib.hid hHeld.2.2.2.2.2.2
          clear hHeld hS hbp
          all_goals go_wp2_with fail
          go_roundw
          case rel => exact ⟨p + 3, by omega, by go_num, HH.out⟩
          case measure => simp [intOf]; omega
        · go_wp2_with fail
          go_roundw
          case rel => exact ⟨k + 1, by omega, by go_num, below_then hb3 hbp⟩
          case measure => simp [intOf]; omega
    · have HB := Lib.hid (below_then hb1 hb)
      go_wp2_with fail
      go_ret
      exact ⟨rfl, HB.out⟩
theorem tells_lit (l : List Ent) (a s tok : List UInt8) (ct : UInt8) (n : Int) (hn : n = (ct.toNat : Int)) (A : Option Addr) (c : Nat) (w : World) (hl : l.length ≤ 1000) (hw : ∀ x ∈ l, x.1.length ≤ 1000 ∧ x.2.2.length ≤ 1000) (ha : a.length ≤ 1000) (hs : s.length ≤ 1000) (hr : Reads w w.heap.size 3 A l.length (flat l)) :
    Calls Tryz.prog 7 #[.slice A l.length c, .agg #[str a, .int .u8 n, str s], str tok] w fun e w' => e = .returned (.bool true) ∧ Below w.heap.size w w' := by
  subst hn
  exact tells_any l (a, ct, s) tok A c w hl hw ⟨ha, hs⟩ hr
theorem conv_two (W : World) (x y : UInt8) : (convert 69 9 (.slice (some ⟨W.heap.size, 0, none⟩) 2 2)).run Tryz.prog (W.alloc (.cells #[.int .u8 x.toNat, .int .u8 y.toNat] 5)) = .ok (.string ⟨[x, y].toArray⟩) (W.alloc (.cells #[.int .u8 x.toNat, .int .u8 y.toNat] 5)) :=
  run_convert_bytes_back (W.alloc (.cells #[.int .u8 x.toNat, .int .u8 y.toNat] 5)) _ _ 5 ⟨W.heap.size, 0, none⟩ 2 [x, y] Tryz.underlying69 Tryz.underlying5 Tryz.underlying9 (fun j hj => by
    have hj2 : j < 2 := hj
    rw [addr_add, Nat.zero_add, World.cell?_alloc_mark]
    rcases Nat.lt_or_ge j 1 with h | h
    · obtain rfl : j = 0 := by omega
      rfl
    · obtain rfl : j = 1 := by omega
      rfl)
theorem conv_nums (W : World) (p q : Int) (hp : 0 ≤ p ∧ p < 256) (hq : 0 ≤ q ∧ q < 256) : ∃ x y : UInt8, (convert 69 9 (.slice (some ⟨W.heap.size, 0, none⟩) 2 2)).run Tryz.prog (W.alloc (.cells #[.int .u8 p, .int .u8 q] 5)) = .ok (.string ⟨#[x, y]⟩) (W.alloc (.cells #[.int .u8 p, .int .u8 q] 5)) := by
  refine ⟨UInt8.ofNat p.toNat, UInt8.ofNat q.toNat, ?_⟩
  have h := conv_two W (UInt8.ofNat p.toNat) (UInt8.ofNat q.toNat)
  have e1 : ((UInt8.ofNat p.toNat).toNat : Int) = p := by simp; omega
  have e2 : ((UInt8.ofNat q.toNat).toNat : Int) = q := by simp; omega
  rw [e1, e2] at h
  exact h
theorem str_one (l : List (List UInt8)) : ∀ u ∈ l.map str, u.oneCell' = true := by
  intro u hu
  obtain ⟨x, -, rfl⟩ := List.mem_map.1 hu
  rfl
theorem row_one (w : World) (t : TypeId) (base : Nat) (x : List UInt8) (hb : base ≤ w.heap.size) : (w.alloc (.cells #[str x] t)).ownsRow base t 1 (.slice (some ⟨w.heap.size, 0, none⟩) 1 1) ([x] : List (List UInt8)).length ([x].map str) :=
  ⟨rfl, .inr ⟨w.heap.size, 1, #[str x], rfl, hb, heap_alloc_new w _, Nat.le_refl _, by unfold maxLen; omega, rfl, rfl⟩⟩
theorem row_str {W : World} {B e n : Nat} {v : Value} {fs : List (List UInt8)} {f : List UInt8} (h : W.ownsRow B e 1 v n (fs.map str ++ [str f])) (hn : n = fs.length + 1) : W.ownsRow B e 1 v (fs ++ [f]).length ((fs ++ [f]).map str) := by
  subst hn
  rw [List.map_append]; simpa using h
theorem own_empty1 (W : World) (base t : Nat) (hb : base ≤ W.heap.size) : (W.alloc (.cells #[] t)).ownsRow base t 1 (.slice (some ⟨W.heap.size, 0, none⟩) 0 0) 0 [] :=
  ⟨rfl, .inr ⟨W.heap.size, 0, #[], rfl, hb, heap_alloc_new W _, Nat.le_refl _, Nat.zero_le _, rfl, rfl⟩⟩
theorem one_new0 (W : World) (n : Nat) (hn : W.heap.size = n) (x : Value) (t : TypeId) : ∀ j u, [x][j]? = some u → (W.alloc (.cells #[x] t)).cell? ⟨n, j, none⟩ = some u := by
  intro j u hj
  have := one_new W n hn x t j u hj
  rwa [addr_add, Nat.zero_add] at this
section
variable {P : Program} (w : World)
theorem wpList_append_any_if {ops : Array Oper} {rest : List Oper} {o : Oper} {a : Act} {Q : Exit → Act → World → Prop} (hgd : Region.wanted o (yielded ops a.tmps) = true) (s x : Operand) (t : TypeId)
    (ho : o.op = .call { callee := .builtin .append, args := #[s, x], argTypes := #[t, t] })
    (base : Nat) (e : TypeId) (i : TypeInfo) (z : Value) (size bytes : Nat) (ht : P.underlying t = some (.slice e)) (hi : P.info? e = some i) (hz : i.zero = some z)
    (hsize : i.size = size) (hby : i.bytes = bytes) (hzs : z.cells.size = size) (hsz : 0 < size)
    (v : Value) (n : Nat) (xs : List Value) (hs : a.eval s = v) (hown : w.ownsRow base e size v n xs)
    (B : Nat) (A : Option Addr) (m c : Nat) (news : List Value) (hx : a.eval x = .slice A m c) (hr : Reads w B size A m news) (h1 : ∀ u ∈ news, u.oneCell' = true)
    (h63 : n + m ≤ maxLen) (hbytes : (n + m) * bytes ≤ 140737488355328) (hbase : base ≤ w.heap.size)
    (h : ∀ v' w', w'.ownsRow base e size v' (n + m) (xs ++ news) → w.grownBy w' v.ownBlock → (v'.ownBlock = v.ownBlock ∨ v'.ownBlock = some w.heap.size) → wpList P ops Q rest (a.put o.dst v') w') : wpList P ops Q (o :: rest) a w :=
  wpList_step fun K hK => by
    rw [if_pos hgd]
    exact wp_append_any w s x t ho base e i z size bytes ht hi hz hsize hby hzs hsz v n xs hs hown B A m c news hx hr h1 h63 hbytes hbase fun v' w' h2 h3 h4 => hK _ _ (h v' w' h2 h3 h4)
end
/-- A row of strings of the call's own: its block, and one of its strings. -/
theorem row_at {W : World} {B t n k : Nat} {v : Value} {T : List (List UInt8)} (h : W.ownsRow B t 1 v n (T.map str)) (hT : T.length = n) (hk : k < n) : ∃ g c z, v = .slice (some ⟨g, 0, none⟩) n c ∧ n ≤ c ∧ g < W.heap.size ∧ T[k]? = some z ∧ W.cell? ⟨g, k, none⟩ = some (str z) ∧ ∀ j u, (T.map str)[j]? = some u → W.cell? ⟨g, j, none⟩ = some u := by
  obtain ⟨A, c, hv, hc⟩ := own_form h
  subst hv
  rcases h.2 with ⟨-, h0⟩ | ⟨g, cap, cur, hv, hg, hh, hnc, hcm, hsz, hrow⟩
  · omega
  · simp only [Value.slice.injEq] at hv
    obtain ⟨rfl, -, rfl⟩ := hv
    have hb : Blk W g t cur := hh
    have hz : T[k]? = some (T[k]'(by omega)) := List.getElem?_eq_getElem (by omega)
    have hall : ∀ j u, (T.map str)[j]? = some u → W.cell? ⟨g, j, none⟩ = some u := fun j u hj => by
      rw [hb.cell]
      rw [← hrow, List.getElem?_take] at hj
      split at hj
      · simpa using hj
      · cases hj
    exact ⟨g, c, _, rfl, hc, hb.lt, hz, hall k _ (by rw [List.getElem?_map, hz]; rfl), hall⟩
theorem row_cells {W : World} {B t n c g : Nat} {T : List (List UInt8)} (h : W.ownsRow B t 1 (.slice (some ⟨g, 0, none⟩) n c) n (T.map str)) (hT : T.length = n) (hn : 0 < n) (k : Nat) : ∀ b, some (⟨g, 0, none⟩ : Addr) = some b → ∀ j u, ((T.take k).map str)[j]? = some u → W.cell? (b.add j) = some u := by
  intro b hb j u hj
  cases hb
  obtain ⟨g', c', z, hv, -, -, -, -, hall⟩ := row_at h hT hn
  simp only [Value.slice.injEq, Option.some.injEq, Addr.mk.injEq] at hv
  obtain ⟨⟨rfl, -⟩, -⟩ := hv
  rw [addr_add, Nat.zero_add]
  refine hall j u ?_
  rw [List.map_take, List.getElem?_take] at hj
  split at hj
  · exact hj
  · cases hj
theorem row_new {W W' : World} {B t : Nat} {v : Value} {T : List (List UInt8)} {Z : ByteArray} (h : W'.ownsRow W.heap.size t 1 v (58 + 1) ((T.take 58).map str ++ [.string Z])) (hB : B ≤ W.heap.size) : W'.ownsRow B t 1 v 59 ((T.take 58 ++ [Z.data.toList]).map str) := by
  rw [List.map_append]
  exact own_less h hB
/-- A row of strings, and one of them, in the middle of a region. -/
abbrev SR (w W : World) (B t : Nat) (v : Value) (n : Nat) (T : List (List UInt8)) (ad : Addr) (z : List UInt8) : Prop := W.cell? ad = some (str z) ∧ ad.block < W.heap.size ∧ W.ownsRow B t 1 v n (T.map str) ∧ Below w.heap.size w W
theorem keepSR {w W W' : World} {B t n : Nat} {v : Value} {T : List (List UInt8)} {ad : Addr} {z : List UInt8} (h : SR w W B t v n T ad z) (hb : Below W.heap.size W W') : SR w W' B t v n T ad z := ⟨(hb.cell h.2.1).trans h.1, Nat.lt_of_lt_of_le h.2.1 hb.size, row_later h.2.2.1 hb, below_then h.2.2.2 hb⟩
theorem startSR {w W : World} {B t n : Nat} {v : Value} {T : List (List UInt8)} {ad : Addr} {z : List UInt8} (h : SR w W B t v n T ad z) : SR w W.drew B t v n T ad z := ⟨h.1, h.2.1, h.2.2.1, h.2.2.2.drew⟩
set_option maxRecDepth 100000 in
set_option maxHeartbeats 12800000 in
theorem limits_any (w : World) : Calls Tryz.prog 12 #[] w fun e w' => e = .returned (.bool true) ∧ Below w.heap.size w w' := by
  obtain ⟨i0, hi, hz0, hz1, hz2⟩ := info_parts infoEnt
  obtain ⟨i1, gi, gz0, gz1, gz2⟩ := info_parts infoStr
  go_enter Tryz.func12, Tryz.ntmps12
  go_wp2_with fail
  go_loopw [1, 2] (fun v i wr => ∃ ls : List Ent, ls.length ≤ 102 ∧ i = .int .i64 ls.length ∧ (∀ x ∈ ls, x.1.length ≤ 1000 ∧ x.2.2.length ≤ 1000) ∧ wr.ownsRow w.heap.size 24 3 v ls.length (flat ls) ∧ Below w.heap.size w wr) (fun _ i _ => 102 - (intOf i).toNat)
  case atStart => exact ⟨[], by simp, rfl, by simp, World.ownsRow_nil _ _ _ _, Below.refl _ _⟩
  case round =>
    obtain ⟨ls, hk, rfl, hls, hrow, hb⟩ := hrel
    by_cases hlt : ls.length < 102
    · obtain ⟨A1, c1, rfl, hc1, ho1⟩ := own_out hrow
      have HO := Lib.hid ho1
      have HLS := Lib.hid hls
      clear hrow ho1 hls
      by_cases h97 : 97 < ls.length
      · go_wp2_with fail
        go_at_call 7; refine (tells_lit ls [122, 122] [80] [97, 98] 4 4 rfl A1 c1 _ (by omega) HLS.out (by simp) (by simp) (Reads.of_own HO.out)).mono ?_; rintro e w2 ⟨rfl, hb2⟩
        have HO2 := Lib.hid (row_later HO.out hb2)
        have hb3 := below_then hb hb2
        clear hb hb2
        go_wp2_with fail
        go_at_call 7; refine (tells_lit ls [97, 98] [80] [97, 98, 115] 5 5 rfl A1 c1 _ (by omega) HLS.out (by simp) (by simp) (Reads.of_own HO2.out)).mono ?_; rintro e w4 ⟨rfl, hb4⟩
        have HO4 := Lib.hid (row_later HO2.out hb4)
        have hb5 := below_then hb3 hb4
        clear hb3 hb4
        obtain ⟨x, y, hcv⟩ := conv_nums w4 (97 + (ls.length : Int) / 26) (97 + (ls.length : Int) % 26) (by omega) (by omega)
        have hcat : ((⟨#[97]⟩ : ByteArray) ++ ⟨#[x, y]⟩) = ⟨#[97, x, y]⟩ := by rw [ByteArray.mk_append_mk]; rfl
        have hbz := hb5.size
        have HBL := Lib.hid (hb5.alloc hbz (.cells #[.int .u8 (97 + (ls.length : Int) / 26), .int .u8 (97 + (ls.length : Int) % 26)] 5))
        go_wp2_with (at_builtin; refine wpList_append_own _ rfl _ _ 22 rfl w.heap.size 24 i0 (.agg #[.string ⟨#[]⟩, .int .u8 0, .string ⟨#[]⟩]) 3 40 Tryz.underlying22 hi hz0 hz1 hz2 rfl (by decide) _ _ _ rfl (((HO4.out).alloc _).alloc _) ⟨w4.heap.size + 1, 0, none⟩ 1 1 [.string ⟨#[97, x, y]⟩, .int .u8 4, .string ⟨#[80]⟩] rfl rfl ?ay1 ?by1 ?cy1 ?dy1 ?ey1 ?_)
        try (case ay1 => first | exact three_new _ _ rfl _ _ _ _ | exact three_new _ _ (by simp) _ _ _ _ | exact three_new0 _ _ rfl _ _ _ _ | exact three_new0 _ _ (by simp) _ _ _ _)
        case by1 => simp [Value.oneCell']
        case cy1 => (unfold maxLen; omega)
        case dy1 => omega
        case ey1 => (first | omega | (simp; omega))
        intro v5 w5 hown5 hgrow5 _
        have HG := Lib.hid (((HBL.out).alloc (by simp; omega) (.cells #[.string ⟨#[97, x, y]⟩, .int .u8 4, .string ⟨#[80]⟩] 24)).grown hgrow5 (by simp; omega) (own_ge (HO4.out)))
        have HRW := Lib.hid (rowE_put (fs := ls) (f := ([97, x, y], 4, [80])) hown5 (by simp))
        clear hgrow5 hown5 hcv hcat
        go_wp2_with fail
        go_roundw
        case rel => exact ⟨ls ++ [([97, x, y], 4, [80])], by simp; omega, by simp, fun z hz => (List.mem_append.1 hz).elim (HLS.out z) (fun h => by obtain rfl := List.mem_singleton.1 h; exact ⟨by simp, by simp⟩), HRW.out, HG.out⟩
        case measure => simp [intOf]; omega
      · obtain ⟨x, y, hcv⟩ := conv_nums wr (97 + (ls.length : Int) / 26) (97 + (ls.length : Int) % 26) (by omega) (by omega)
        have hcat : ((⟨#[97]⟩ : ByteArray) ++ ⟨#[x, y]⟩) = ⟨#[97, x, y]⟩ := by rw [ByteArray.mk_append_mk]; rfl
        have hbz := hb.size
        have HBL := Lib.hid (hb.alloc hbz (.cells #[.int .u8 (97 + (ls.length : Int) / 26), .int .u8 (97 + (ls.length : Int) % 26)] 5))
        go_wp2_with (at_builtin; refine wpList_append_own _ rfl _ _ 22 rfl w.heap.size 24 i0 (.agg #[.string ⟨#[]⟩, .int .u8 0, .string ⟨#[]⟩]) 3 40 Tryz.underlying22 hi hz0 hz1 hz2 rfl (by decide) _ _ _ rfl (((HO.out).alloc _).alloc _) ⟨wr.heap.size + 1, 0, none⟩ 1 1 [.string ⟨#[97, x, y]⟩, .int .u8 4, .string ⟨#[80]⟩] rfl rfl ?ay2 ?by2 ?cy2 ?dy2 ?ey2 ?_)
        try (case ay2 => first | exact three_new _ _ rfl _ _ _ _ | exact three_new _ _ (by simp) _ _ _ _ | exact three_new0 _ _ rfl _ _ _ _ | exact three_new0 _ _ (by simp) _ _ _ _)
        case by2 => simp [Value.oneCell']
        case cy2 => (unfold maxLen; omega)
        case dy2 => omega
        case ey2 => (first | omega | (simp; omega))
        intro v5 w5 hown5 hgrow5 _
        have HG := Lib.hid (((HBL.out).alloc (by simp; omega) (.cells #[.string ⟨#[97, x, y]⟩, .int .u8 4, .string ⟨#[80]⟩] 24)).grown hgrow5 (by simp; omega) (own_ge (HO.out)))
        have HRW := Lib.hid (rowE_put (fs := ls) (f := ([97, x, y], 4, [80])) hown5 (by simp))
        clear hgrow5 hown5 hcv hcat
        go_wp2_with fail
        go_roundw
        case rel => exact ⟨ls ++ [([97, x, y], 4, [80])], by simp; omega, by simp, fun z hz => (List.mem_append.1 hz).elim (HLS.out z) (fun h => by obtain rfl := List.mem_singleton.1 h; exact ⟨by simp, by simp⟩), HRW.out, HG.out⟩
        case measure => simp [intOf]; omega
    · go_wp2_with fail
      have HB0 := Lib.hid hb
      clear hrow hls hk hlt
      obtain ⟨W1, hW1⟩ : ∃ W1 : World, W1 = wr.alloc (.cells #[str [65, 110, 110]] 9) := ⟨_, rfl⟩
      have hr1 : W1.ownsRow w.heap.size 9 1 (.slice (some ⟨wr.heap.size, 0, none⟩) 1 1) ([[65, 110, 110]] : List (List UInt8)).length (([[65, 110, 110]] : List (List UInt8)).map str) := by subst hW1; exact row_one wr _ _ _ hb.size
      have hb1 : Below w.heap.size w W1 := by subst hW1; exact hb.alloc hb.size _
      rw [← hW1]
      have HR1 := Lib.hid hr1
      clear hW1 hb hr1
      go_loopw [3, 4, 5] (fun s v i wr' => ∃ (S : List UInt8) (T : List (List UInt8)), T.length ≤ 59 ∧ 1 ≤ T.length ∧ i = .int .i64 (T.length - 1 : Nat) ∧ S.length = 3 + 17 * (T.length - 1) ∧ s = str S ∧ wr'.ownsRow w.heap.size 9 1 v T.length (T.map str) ∧ (∀ t ∈ T, t.length ≤ 16) ∧ Below w.heap.size w wr') (fun _ _ i _ => 58 - (intOf i).toNat)
      case atStart => exact ⟨[65, 110, 110], [[65, 110, 110]], by simp, by simp, rfl, rfl, rfl, HR1.out, by simp, hb1⟩
      case round =>
        obtain ⟨S, T, hT, hT1, rfl, hS, rfl, hrow, hts, hb⟩ := hrel
        have HROW := Lib.hid hrow
        have HTS := Lib.hid hts
        clear hrow hts
        obtain ⟨k, hk⟩ : ∃ k, T.length - 1 = k := ⟨_, rfl⟩
        have hTk : T.length = k + 1 := by omega
        rw [hk] at hS ⊢
        have HTK := Lib.hid hTk
        have hbs := hb.size
        clear hk hTk
        by_cases hlt : k < 58
        · have hn1 : T.length + 1 ≤ 1000 := by have := HTK.out; omega
          go_wp2_with (at_builtin; refine wpList_append_own _ rfl _ _ 29 rfl w.heap.size 9 i1 (.string ⟨#[]⟩) 1 16 Tryz.underlying29 gi gz0 gz1 gz2 rfl (by decide) _ _ _ rfl ((HROW.out).alloc _) ⟨wr.heap.size, 0, none⟩ 1 1 [str [97, 98, 99, 100, 101, 102, 103, 104, 105, 106, 107, 108, 109, 110, 111, 112]] rfl rfl ?a1 ?b1 ?c1 ?d1 ?e1 ?_)
          try (case a1 => first | exact one_new _ _ rfl _ _ | exact one_new0 _ _ rfl _ _)
          case b1 => simp [Value.oneCell']
          case c1 => (unfold maxLen; omega)
          case d1 => omega
          case e1 => (first | omega | (simp; omega))
          intro v5 w5 hown5 hgrow5 _
          have HG := Lib.hid ((hb.alloc hbs (.cells #[str [97, 98, 99, 100, 101, 102, 103, 104, 105, 106, 107, 108, 109, 110, 111, 112]] 9)).grown hgrow5 (by first | omega | (simp; omega)) (own_ge (HROW.out)))
          have HRW := Lib.hid (row_str (fs := T) (f := [97, 98, 99, 100, 101, 102, 103, 104, 105, 106, 107, 108, 109, 110, 111, 112]) hown5 rfl)
          clear hgrow5 hown5
          go_wp2_with fail
          go_roundw
          case rel => exact ⟨_, T ++ [[97, 98, 99, 100, 101, 102, 103, 104, 105, 106, 107, 108, 109, 110, 111, 112]], by have := HTK.out; simp; omega, by simp, by have := HTK.out; simp; omega, (by rw [List.length_append]; show S.length + 17 = _; have := HTK.out; simp; omega), rfl, HRW.out, fun z hz => (List.mem_append.1 hz).elim (HTS.out z) (fun h => by obtain rfl := List.mem_singleton.1 h; simp), HG.out⟩
          case measure => simp [intOf]; omega
        · go_wp2_with fail
          have hT59 : T.length = 59 := by have := HTK.out; omega
          have hS0 : S.length = 989 := by have := HTK.out; omega
          have hrow0 : wr.ownsRow w.heap.size 9 1 u4 59 (T.map str) := by have := HROW.out; rwa [hT59] at this
          have HROW0 := Lib.hid hrow0
          have HT59 := Lib.hid hT59
          have HS0 := Lib.hid hS0
          have HBW := Lib.hid hb
          clear hrow0 hT59 hS0 hS HTK HROW hT hT1 hlt hb hbs HR1
          go_loopw [3, 4, 6] (fun s v i wr' => ∃ (S : List UInt8) (T : List (List UInt8)) (k : Nat), k ≤ 14 ∧ i = .int .i64 k ∧ T.length = 59 ∧ S.length = 989 + k ∧ s = str S ∧ wr'.ownsRow w.heap.size 9 1 v 59 (T.map str) ∧ (∀ t ∈ T, t.length ≤ 16 + k) ∧ Below w.heap.size w wr') (fun _ _ i _ => 14 - (intOf i).toNat)
          case atStart => exact ⟨S, T, 0, by omega, rfl, HT59.out, HS0.out, rfl, HROW0.out, HTS.out, HBW.out⟩
          case round =>
            obtain ⟨S, T, k, hk, rfl, hT, hS, rfl, hrow, hts, hb⟩ := hrel
            by_cases hlt : k < 14
            · obtain ⟨g, c, z, rfl, hc, hgl, hz, hcz, hall⟩ := row_at hrow hT (k := 58) (by omega)
              have HT := Lib.hid hT
              have HROW := Lib.hid hrow
              have HTS := Lib.hid hts
              have HZ := Lib.hid hz
              have HALL := Lib.hid hall
              have HCZ := Lib.hid hcz
              clear hrow hts hz hall hcz hT
              go_wp2_with fail
              go_at_call 9; refine (writes_B _ _ (by simp only [ByteArray.size_append, size_of]; show _ + 1 ≤ 1200; omega)).mono ?_; rintro e w2 ⟨rfl, hb2⟩
              have HROW2 := Lib.hid (row_later HROW.out hb2)
              have hb3 := below_then hb hb2
              have HCZ2 := Lib.hid ((hb2.cell (p := ⟨g, 58, none⟩) hgl).trans HCZ.out)
              have hgl2 := Nat.lt_of_lt_of_le hgl hb2.size
              clear hb hb2 HROW HALL HCZ hgl
              go_wp2_with fail
              go_at_call 9; refine (writes_any S _ (by omega)).mono ?_; rintro e w4 ⟨rfl, hb4⟩
              have HROW4 := Lib.hid (row_later HROW2.out hb4)
              have hb5 := below_then hb3 hb4
              have HCZ4 := Lib.hid ((hb4.cell (p := ⟨g, 58, none⟩) hgl2).trans HCZ2.out)
              have hgl4 := Nat.lt_of_lt_of_le hgl2 hb4.size
              clear hb3 hb4 HROW2 HCZ2 hgl2
              have HRT := Lib.hid (show Reads w4 w4.heap.size 1 (some ⟨g, 0, none⟩) T.length (T.map str) by rw [HT.out]; exact Reads.of_own HROW4.out)
              have HB5 := Lib.hid hb5
              have hRd : Reads (w4.alloc (.cells #[] 9)) w4.heap.size 1 (some ⟨g, 0, none⟩) 59 (T.map str) := by
                have h := (HRT.out).alloc (Nat.le_refl _) (.cells #[] 9)
                rwa [HT.out] at h
              have HRD := Lib.hid hRd
              clear hRd hb5
              go_wp2_with (at_builtin; refine wpList_append_any_if _ (by rfl) _ _ 29 rfl w4.heap.size 9 i1 (.string ⟨#[]⟩) 1 16 Tryz.underlying29 gi gz0 gz1 gz2 rfl (by decide) _ 0 [] rfl (own_empty1 w4 w4.heap.size 9 (Nat.le_refl _)) w4.heap.size (some ⟨g, 0, none⟩) 59 c (T.map str) rfl (HRD.out) (str_one T) ?b2 ?c2 (by simp) ?_)
              try (case b2 => (unfold maxLen; omega))
              try (case c2 => omega)
              intro v5 w5 hown5 hgrow5 _
              have HB6 := Lib.hid ((((Below.refl w4.heap.size w4).alloc (Nat.le_refl _) (.cells #[] 9))).grown hgrow5 (by simp) (own_ge (own_empty1 w4 w4.heap.size 9 (Nat.le_refl _))))
              have HO5 := Lib.hid (show w5.ownsRow w4.heap.size 9 1 v5 59 (T.map str) by simpa using hown5)
              clear hgrow5 hown5
              have hz6 := HB6.out.size
              have hRn : Reads (w5.alloc (.cells #[str [46]] 9)) (w5.alloc (.cells #[str [46]] 9)).heap.size 1 (some ⟨w5.heap.size, 0, none⟩) 1 [str [46]] := Reads.new2 w5 9 1 1 _ _ rfl rfl
              have HRN := Lib.hid hRn
              clear hRn
              go_wp2_with (at_builtin; refine wpList_append_any_if _ (by rfl) _ _ 29 rfl w4.heap.size 9 i1 (.string ⟨#[]⟩) 1 16 Tryz.underlying29 gi gz0 gz1 gz2 rfl (by decide) v5 59 (T.map str) rfl ((HO5.out).alloc _) (w5.alloc (.cells #[str [46]] 9)).heap.size (some ⟨w5.heap.size, 0, none⟩) 1 1 [str [46]] rfl (HRN.out) (by simp [Value.oneCell']) ?b3 ?c3 (by simp; omega) ?_)
              try (case b3 => (unfold maxLen; omega))
              try (case c3 => omega)
              intro v7 w7 hown7 hgrow7 _
              have HB7 := Lib.hid ((HB6.out.alloc hz6 (.cells #[str [46]] 9)).grown hgrow7 (by first | omega | (simp; omega)) (own_ge (HO5.out)))
              have hl60 : (T ++ [[46]]).length = 60 := by have := HT.out; simp; omega
              have hO7 := row_str (fs := T) (f := [46]) hown7 (by have := HT.out; omega)
              rw [hl60] at hO7
              have HO7 := Lib.hid hO7
              clear hgrow7 hown7
              obtain ⟨A7, c7, hv7, hc7⟩ := own_form hO7
              subst hv7
              have hX := wordsTexts_core (T ++ [[46]]) A7 c7 w7 (by rw [hl60]; omega) (by rw [hl60]; exact hc7) (fun t ht => by
                rcases List.mem_append.1 ht with h | h
                · have := HTS.out t h; unfold maxLen; omega
                · obtain rfl := List.mem_singleton.1 h; unfold maxLen; simp) (by rw [hl60]; exact Reads.of_own hO7)
              rw [hl60] at hX
              have HX := Lib.hid hX
              clear hX hO7 hl60
              go_wp2_with fail
              go_at_call 10; refine (HX.out).mono ?_; rintro e w9 ⟨rfl, hb9⟩
              have HB9 := Lib.hid (HB7.out.trans (hb9.mono (by have := HB7.out.size; omega)))
              have HROW9 := Lib.hid (row_later HROW4.out HB9.out)
              have HCZ9 := Lib.hid ((HB9.out.cell (p := ⟨g, 58, none⟩) hgl4).trans HCZ4.out)
              have hgl9 := Nat.lt_of_lt_of_le hgl4 HB9.out.size
              have HB10 := Lib.hid (below_then HB5.out HB9.out)
              clear hb9 HX HO7 HB7 HO5 HB6 HRD HRT HROW4 HCZ4 hgl4 hz6
              have hzl : z.length ≤ 16 + k := HTS.out z (List.mem_of_getElem? HZ.out)
              have hz1 : (9223372036854775807 < 989 + k + 1) = False := by rw [eq_iff_iff, iff_false]; omega
              have hz2 : (9223372036854775807 < z.length + 1) = False := by rw [eq_iff_iff, iff_false]; omega
              have hw58 : IntKind.i64.wrap 58 = 58 := by decide
              have hc58 : (58 : Int) ≤ (c : Int) := by omega
              have hS9 : SR w w9 w.heap.size 9 (.slice (some ⟨g, 0, none⟩) 59 c) 59 T ⟨g, 58, none⟩ z := ⟨HCZ9.out, hgl9, HROW9.out, HB10.out⟩
              go_wp2_with fail
              refine wp_region_held_drew (S := fun W => SR w W w.heap.size 9 (.slice (some ⟨g, 0, none⟩) 59 c) 59 T ⟨g, 58, none⟩ z) (by kernel_rfl) (by exact startSR hS9) (fun hHeld => ?_)
              refine wpAnyH_take (i := 0) (oi := { dst := some 72, op := Op.move (Operand.tmp 3), type := 9, pos := "law.go:196", after := #[], guard := none }) (v := ?v5_0) (by kernel_rfl) (by kernel_rfl) (by kernel_rfl) (by kernel_rfl) (fun _ _ _ h => h) (Or.inl ⟨by kernel_rfl, ?h5_0⟩) hHeld ?r5_0
              case h5_0 => (intro w hSw; (try dsimp only at hSw); go_simp; try with_reducible rfl)
              try simp only [Act.put, List.setIfInBounds_toArray, List.set_cons_zero, List.set_cons_succ]
              refine wpAnyH_take (i := 1) (oi := { dst := some 73, op := Op.binOp BinOp.add 9 (Operand.tmp 72) (Operand.const (Value.string { data := #[113] })) 9, type := 9, pos := "law.go:196", after := #[{ on := 0, ground := Ground.data }], guard := none }) (v := ?v5_1) (by kernel_rfl) (by kernel_rfl) (by kernel_rfl) (by kernel_rfl) (fun _ _ _ h => h) (Or.inl ⟨by kernel_rfl, ?h5_1⟩) hHeld ?r5_1
              case h5_1 => (intro w hSw; (try dsimp only at hSw); go_simp; try with_reducible rfl)
              try simp only [Act.put, List.setIfInBounds_toArray, List.set_cons_zero, List.set_cons_succ]
              refine wpAnyH_take (i := 2) (oi := { dst := some 74, op := Op.move (Operand.tmp 4), type := 29, pos := "law.go:196", after := #[], guard := none }) (v := ?v5_2) (by kernel_rfl) (by kernel_rfl) (by kernel_rfl) (by kernel_rfl) (fun _ _ _ h => h) (Or.inl ⟨by kernel_rfl, ?h5_2⟩) hHeld ?r5_2
              case h5_2 => (intro w hSw; (try dsimp only at hSw); go_simp; try with_reducible rfl)
              try simp only [Act.put, List.setIfInBounds_toArray, List.set_cons_zero, List.set_cons_succ]
              refine wpAnyH_take (i := 3) (oi := { dst := some 75, op := Op.move (Operand.tmp 4), type := 29, pos := "law.go:196", after := #[], guard := none }) (v := ?v5_3) (by kernel_rfl) (by kernel_rfl) (by kernel_rfl) (by kernel_rfl) (fun _ _ _ h => h) (Or.inl ⟨by kernel_rfl, ?h5_3⟩) hHeld ?r5_3
              case h5_3 => (intro w hSw; (try dsimp only at hSw); go_simp; try with_reducible rfl)
              try simp only [Act.put, List.setIfInBounds_toArray, List.set_cons_zero, List.set_cons_succ]
              refine wpAnyH_take (i := 4) (oi := { dst := some 76, op := Op.call { callee := Callee.builtin Builtin.len, args := #[Operand.tmp 75], argTypes := #[29] }, type := 3, pos := "law.go:196", after := #[{ on := 3, ground := Ground.data }], guard := none }) (v := ?v5_4) (by kernel_rfl) (by kernel_rfl) (by kernel_rfl) (by kernel_rfl) (fun _ _ _ h => h) (Or.inl ⟨by kernel_rfl, ?h5_4⟩) hHeld ?r5_4
              case h5_4 => (intro w hSw; (try dsimp only at hSw); go_simp; try with_reducible rfl)
              try simp only [Act.put, List.setIfInBounds_toArray, List.set_cons_zero, List.set_cons_succ]
              refine wpAnyH_take (i := 5) (oi := { dst := some 77, op := Op.binOp BinOp.sub 3 (Operand.tmp 76) (Operand.const (Value.int IntKind.i64 1)) 3, type := 3, pos := "law.go:196", after := #[{ on := 4, ground := Ground.data }], guard := none }) (v := ?v5_5) (by kernel_rfl) (by kernel_rfl) (by kernel_rfl) (by kernel_rfl) (fun _ _ _ h => h) (Or.inl ⟨by kernel_rfl, ?h5_5⟩) hHeld ?r5_5
              case h5_5 => (intro w hSw; (try dsimp only at hSw); go_simp; try with_reducible rfl)
              try simp only [Act.put, List.setIfInBounds_toArray, List.set_cons_zero, List.set_cons_succ]
              refine wpAnyH_take (i := 6) (oi := { dst := some 78, op := Op.move (Operand.tmp 4), type := 29, pos := "law.go:196", after := #[], guard := none }) (v := ?v5_6) (by kernel_rfl) (by kernel_rfl) (by kernel_rfl) (by kernel_rfl) (fun _ _ _ h => h) (Or.inl ⟨by kernel_rfl, ?h5_6⟩) hHeld ?r5_6
              case h5_6 => (intro w hSw; (try dsimp only at hSw); go_simp; try with_reducible rfl)
              try simp only [Act.put, List.setIfInBounds_toArray, List.set_cons_zero, List.set_cons_succ]
              refine wpAnyH_take (i := 7) (oi := { dst := some 79, op := Op.call { callee := Callee.builtin Builtin.len, args := #[Operand.tmp 78], argTypes := #[29] }, type := 3, pos := "law.go:196", after := #[{ on := 6, ground := Ground.data }], guard := none }) (v := ?v5_7) (by kernel_rfl) (by kernel_rfl) (by kernel_rfl) (by kernel_rfl) (fun _ _ _ h => h) (Or.inl ⟨by kernel_rfl, ?h5_7⟩) hHeld ?r5_7
              case h5_7 => (intro w hSw; (try dsimp only at hSw); go_simp; try with_reducible rfl)
              try simp only [Act.put, List.setIfInBounds_toArray, List.set_cons_zero, List.set_cons_succ]
              refine wpAnyH_take (i := 8) (oi := { dst := some 80, op := Op.binOp BinOp.sub 3 (Operand.tmp 79) (Operand.const (Value.int IntKind.i64 1)) 3, type := 3, pos := "law.go:196", after := #[{ on := 7, ground := Ground.data }], guard := none }) (v := ?v5_8) (by kernel_rfl) (by kernel_rfl) (by kernel_rfl) (by kernel_rfl) (fun _ _ _ h => h) (Or.inl ⟨by kernel_rfl, ?h5_8⟩) hHeld ?r5_8
              case h5_8 => (intro w hSw; (try dsimp only at hSw); go_simp; try with_reducible rfl)
              try simp only [Act.put, List.setIfInBounds_toArray, List.set_cons_zero, List.set_cons_succ]
              refine wpAnyH_take (i := 9) (oi := { dst := some 81, op := Op.slice 29 (Operand.tmp 74) none (some (Operand.tmp 77)) (some (Operand.tmp 80)), type := 29, pos := "law.go:196", after := #[{ on := 2, ground := Ground.data }, { on := 5, ground := Ground.data }, { on := 8, ground := Ground.data }], guard := none }) (v := ?v5_9) (by kernel_rfl) (by kernel_rfl) (by kernel_rfl) (by kernel_rfl) (fun _ _ _ h => h) (Or.inl ⟨by kernel_rfl, ?h5_9⟩) hHeld ?r5_9
              case h5_9 => (intro w hSw; (try dsimp only at hSw); go_simp; try with_reducible rfl)
              try simp only [Act.put, List.setIfInBounds_toArray, List.set_cons_zero, List.set_cons_succ]
              refine wpAnyH_take (i := 10) (oi := { dst := some 82, op := Op.move (Operand.tmp 4), type := 29, pos := "law.go:196", after := #[], guard := none }) (v := ?v5_10) (by kernel_rfl) (by kernel_rfl) (by kernel_rfl) (by kernel_rfl) (fun _ _ _ h => h) (Or.inl ⟨by kernel_rfl, ?h5_10⟩) hHeld ?r5_10
              case h5_10 => (intro w hSw; (try dsimp only at hSw); go_simp; try with_reducible rfl)
              try simp only [Act.put, List.setIfInBounds_toArray, List.set_cons_zero, List.set_cons_succ]
              refine wpAnyH_take (i := 11) (oi := { dst := some 83, op := Op.move (Operand.tmp 4), type := 29, pos := "law.go:196", after := #[], guard := none }) (v := ?v5_11) (by kernel_rfl) (by kernel_rfl) (by kernel_rfl) (by kernel_rfl) (fun _ _ _ h => h) (Or.inl ⟨by kernel_rfl, ?h5_11⟩) hHeld ?r5_11
              case h5_11 => (intro w hSw; (try dsimp only at hSw); go_simp; try with_reducible rfl)
              try simp only [Act.put, List.setIfInBounds_toArray, List.set_cons_zero, List.set_cons_succ]
              refine wpAnyH_take (i := 12) (oi := { dst := some 84, op := Op.call { callee := Callee.builtin Builtin.len, args := #[Operand.tmp 83], argTypes := #[29] }, type := 3, pos := "law.go:196", after := #[{ on := 11, ground := Ground.data }], guard := none }) (v := ?v5_12) (by kernel_rfl) (by kernel_rfl) (by kernel_rfl) (by kernel_rfl) (fun _ _ _ h => h) (Or.inl ⟨by kernel_rfl, ?h5_12⟩) hHeld ?r5_12
              case h5_12 => (intro w hSw; (try dsimp only at hSw); go_simp; try with_reducible rfl)
              try simp only [Act.put, List.setIfInBounds_toArray, List.set_cons_zero, List.set_cons_succ]
              refine wpAnyH_take (i := 13) (oi := { dst := some 85, op := Op.binOp BinOp.sub 3 (Operand.tmp 84) (Operand.const (Value.int IntKind.i64 1)) 3, type := 3, pos := "law.go:196", after := #[{ on := 12, ground := Ground.data }], guard := none }) (v := ?v5_13) (by kernel_rfl) (by kernel_rfl) (by kernel_rfl) (by kernel_rfl) (fun _ _ _ h => h) (Or.inl ⟨by kernel_rfl, ?h5_13⟩) hHeld ?r5_13
              case h5_13 => (intro w hSw; (try dsimp only at hSw); go_simp; try with_reducible rfl)
              try simp only [Act.put, List.setIfInBounds_toArray, List.set_cons_zero, List.set_cons_succ]
              refine wpAnyH_take (i := 14) (oi := { dst := some 86, op := Op.indexAddr 29 (Operand.tmp 82) (Operand.tmp 85), type := 0, pos := "law.go:196", after := #[{ on := 10, ground := Ground.data }, { on := 13, ground := Ground.data }], guard := none }) (v := ?v5_14) (by kernel_rfl) (by kernel_rfl) (by kernel_rfl) (by kernel_rfl) (fun _ _ _ h => h) (Or.inl ⟨by kernel_rfl, ?h5_14⟩) hHeld ?r5_14
              case h5_14 => (intro w hSw; (try dsimp only at hSw); go_simp; try with_reducible rfl)
              try simp only [Act.put, List.setIfInBounds_toArray, List.set_cons_zero, List.set_cons_succ]
              refine wpAnyH_take (i := 15) (oi := { dst := some 87, op := Op.load 9 (Operand.tmp 86), type := 9, pos := "law.go:196", after := #[{ on := 14, ground := Ground.data }], guard := none }) (v := ?v5_15) (by kernel_rfl) (by kernel_rfl) (by kernel_rfl) (by kernel_rfl) (fun _ _ _ h => h) (Or.inl ⟨by kernel_rfl, ?h5_15⟩) hHeld ?r5_15
              case h5_15 => (intro w hSw; (try dsimp only at hSw); go_simp; try with_reducible rfl)
              try simp only [Act.put, List.setIfInBounds_toArray, List.set_cons_zero, List.set_cons_succ]
              refine wpAnyH_take (i := 16) (oi := { dst := some 88, op := Op.binOp BinOp.add 9 (Operand.tmp 87) (Operand.const (Value.string { data := #[113] })) 9, type := 9, pos := "law.go:196", after := #[{ on := 15, ground := Ground.data }], guard := none }) (v := ?v5_16) (by kernel_rfl) (by kernel_rfl) (by kernel_rfl) (by kernel_rfl) (fun _ _ _ h => h) (Or.inl ⟨by kernel_rfl, ?h5_16⟩) hHeld ?r5_16
              case h5_16 => (intro w hSw; (try dsimp only at hSw); go_simp; try with_reducible rfl)
              try simp only [Act.put, List.setIfInBounds_toArray, List.set_cons_zero, List.set_cons_succ]
              refine wpAnyH_ready (rs := [17]) (by kernel_rfl) (by simp) ?_
              refine AllReadyH.cons (i := 17) (o := { dst := some 89, op := Op.buildSlice 29 1 #[(0, Operand.tmp 88)], type := 29, pos := "law.go:196", after := #[{ on := 16, ground := Ground.data }], guard := none }) rfl (fun K hK => ?_) AllReadyH.nil
              go_simp
              have hd17 : Below w9.drew.heap.size w9.drew ((w9.alloc (.cells #[.string ((⟨z.toArray⟩ : ByteArray) ++ ⟨#[113]⟩)] 9)).drew) := (Below.refl w9.drew.heap.size w9.drew).alloc (Nat.le_refl _) _
              refine hK.out _ _ (by exact keepSR (by assumption) (by assumption)) (fun hHeld => ?_)
              clear hK K
              try simp only [Act.put, List.setIfInBounds_toArray, List.set_cons_zero, List.set_cons_succ]
              refine wpAnyH_ready (rs := [18]) (by kernel_rfl) (by simp) ?_
              refine AllReadyH.cons (i := 18) (o := { dst := some 90, op := Op.call { callee := Callee.builtin Builtin.append, args := #[Operand.tmp 81, Operand.tmp 89], argTypes := #[29, 29] }, type := 29, pos := "law.go:196", after := #[{ on := 9, ground := Ground.data }, { on := 17, ground := Ground.data }], guard := none }) rfl (fun K hK => ?_) AllReadyH.nil
              refine step_append_grows (by rfl) _ _ _ (by rfl) 9 i1 (.string ⟨#[]⟩) 1 16 Tryz.underlying29 gi gz0 gz1 gz2 rfl (by decide) (some ⟨g, 0, none⟩) 58 58 ((T.take 58).map str) (by rfl) (fun h => by cases h) (by rw [List.length_map, List.length_take, HT.out]; rfl) (row_cells hHeld.2.2.1 HT.out (by omega) 58) ⟨w9.heap.size, 0, none⟩ 1 1 [.string ((⟨z.toArray⟩ : ByteArray) ++ ⟨#[113]⟩)] (by rfl) rfl (fun j u hj => one_new w9 _ rfl _ _ j u hj) (by simp [Value.oneCell']) (by omega) (by unfold maxLen; omega) (by omega) ?_
              intro v6 w6 hown6 hg6
              have hd18 : Below ((w9.alloc (.cells #[.string ((⟨z.toArray⟩ : ByteArray) ++ ⟨#[113]⟩)] 9)).drew).heap.size ((w9.alloc (.cells #[.string ((⟨z.toArray⟩ : ByteArray) ++ ⟨#[113]⟩)] 9)).drew) w6 := (Below.refl _ _).grown hg6 (Nat.le_refl _) (fun k h => by cases h)
              have HN6 := Lib.hid hown6
              clear hown6 hg6
              refine hK.out _ _ (by exact keepSR (by assumption) (by assumption)) (fun hHeld => ?_)
              clear hK K
              try simp only [Act.put, List.setIfInBounds_toArray, List.set_cons_zero, List.set_cons_succ]
              refine wpAnyH_take (i := 19) (oi := { dst := some 3, op := Op.assign (Operand.tmp 73), type := 9, pos := "law.go:196", after := #[{ on := 1, ground := Ground.data }, { on := 18, ground := Ground.chain }, { on := 0, ground := Ground.phase }, { on := 1, ground := Ground.phase }, { on := 2, ground := Ground.textOnly Departure.lateStores }, { on := 3, ground := Ground.textOnly Departure.lateStores }, { on := 4, ground := Ground.textOnly Departure.lateStoresUnsure }, { on := 5, ground := Ground.textOnly Departure.lateStores }, { on := 6, ground := Ground.textOnly Departure.lateStores }, { on := 7, ground := Ground.textOnly Departure.lateStoresUnsure }, { on := 8, ground := Ground.textOnly Departure.lateStores }, { on := 9, ground := Ground.textOnly Departure.lateStoresUnsure }, { on := 10, ground := Ground.textOnly Departure.lateStores }, { on := 11, ground := Ground.textOnly Departure.lateStores }, { on := 12, ground := Ground.textOnly Departure.lateStoresUnsure }, { on := 13, ground := Ground.textOnly Departure.lateStores }, { on := 14, ground := Ground.textOnly Departure.lateStores }, { on := 15, ground := Ground.textOnly Departure.lateStores }, { on := 16, ground := Ground.textOnly Departure.lateStores }, { on := 17, ground := Ground.textOnly Departure.lateStores }, { on := 18, ground := Ground.textOnly Departure.lateStoresUnsure }], guard := none }) (v := ?v5_19) (by kernel_rfl) (by kernel_rfl) (by kernel_rfl) (by kernel_rfl) (fun _ _ _ h => h) (Or.inl ⟨by kernel_rfl, ?h5_19⟩) hHeld ?r5_19
              case h5_19 => (intro w hSw; (try dsimp only at hSw); go_simp; try with_reducible rfl)
              try simp only [Act.put, List.setIfInBounds_toArray, List.set_cons_zero, List.set_cons_succ]
              refine wpAnyH_take (i := 20) (oi := { dst := some 4, op := Op.assign (Operand.tmp 90), type := 29, pos := "law.go:196", after := #[{ on := 18, ground := Ground.data }, { on := 19, ground := Ground.chain }, { on := 0, ground := Ground.phase }, { on := 1, ground := Ground.phase }, { on := 2, ground := Ground.phase }, { on := 3, ground := Ground.phase }, { on := 4, ground := Ground.phase }, { on := 5, ground := Ground.phase }, { on := 6, ground := Ground.phase }, { on := 7, ground := Ground.phase }, { on := 8, ground := Ground.phase }, { on := 9, ground := Ground.phase }, { on := 10, ground := Ground.phase }, { on := 11, ground := Ground.phase }, { on := 12, ground := Ground.phase }, { on := 13, ground := Ground.phase }, { on := 14, ground := Ground.phase }, { on := 15, ground := Ground.phase }, { on := 16, ground := Ground.phase }, { on := 17, ground := Ground.phase }, { on := 18, ground := Ground.phase }, { on := 19, ground := Ground.phase }], guard := none }) (v := ?v5_20) (by kernel_rfl) (by kernel_rfl) (by kernel_rfl) (by kernel_rfl) (fun _ _ _ h => h) (Or.inl ⟨by kernel_rfl, ?h5_20⟩) hHeld ?r5_20
              case h5_20 => (intro w hSw; (try dsimp only at hSw); go_simp; try with_reducible rfl)
              try simp only [Act.put, List.setIfInBounds_toArray, List.set_cons_zero, List.set_cons_succ]
              refine wpAnyH_done (by kernel_rfl) ?_ _
              have HH := Lib.hid hHeld.2.2.2
              have hz9 := HB10.out.size
              have HRW := Lib.hid (row_new (B := w.heap.size) HN6.out (by show _ ≤ (w9.alloc _).heap.size; simp; omega))
              clear hHeld hS9
              all_goals go_wp2_with fail
              go_roundw
              case rel => exact ⟨_, T.take 58 ++ [((⟨z.toArray⟩ : ByteArray) ++ ⟨#[113]⟩).data.toList], k + 1, by omega, by go_num, by rw [List.length_append, List.length_take, HT.out]; rfl, by rw [List.length_append]; show S.length + 1 = _; omega, rfl, HRW.out, fun t ht => (List.mem_append.1 ht).elim (fun h => by have := HTS.out t (List.mem_of_mem_take h); omega) (fun h => by obtain rfl := List.mem_singleton.1 h; rw [len_of, ByteArray.size_append]; show z.length + 1 ≤ _; omega), HH.out⟩
              case measure => simp [intOf]; omega
            · obtain rfl : k = 14 := by omega
              have HB := Lib.hid hb
              have hS2 : S.length = 1003 := by omega
              clear hS hrow hts hb
              go_wp2_with fail
              go_ret
              exact ⟨rfl, HB.out⟩
theorem wordsSmall_any (w : World) : Calls Tryz.prog 4 #[] w fun e w' => e = .returned (.bool true) ∧ Below w.heap.size w w' := small_core w entries_any limits_any
end Go.Proofs.YtbbgieopcmjoeaaGreatDoor
