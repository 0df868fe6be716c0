/- WordsAdds: the law's walk. -/
import Derived.Test.YtbbgieopcmjoeaaGreatDoorSameE
import Derived.Test.YtbbgieopcmjoeaaGreatDoorLawFound
namespace Go.Proofs.YtbbgieopcmjoeaaGreatDoor
open Go.RowKit
theorem small_big {l : List Ent} (h : smallL l = true) : ∀ e ∈ l, e.1.length ≤ maxLen ∧ e.2.2.length ≤ maxLen := fun e he => by
  have := (small_each h).2 e he; unfold maxLen; omega
theorem one_reads {W : World} {g : Nat} {x : List UInt8} {ct : UInt8} {sy : List UInt8} {t : TypeId} (h : Blk W g t #[str x, byteV ct, str sy]) : Reads W W.heap.size 3 (some ⟨g, 0, none⟩) ([(x, ct, sy)] : List Ent).length (flat [(x, ct, sy)]) := by
  refine ⟨rfl, fun _ => ⟨_, rfl, h.lt, fun j u hu => ?_⟩⟩
  have e : (⟨g, 0, none⟩ : Addr).add j = ⟨g, j, none⟩ := by unfold Addr.add; split <;> simp_all
  rw [e, h.cell j]
  simpa [flat, entCells] using hu
set_option maxRecDepth 100000 in
set_option maxHeartbeats 3200000 in
theorem adds_0 (l : List Ent) (ex : List UInt8) (ec : UInt8) (esy tok : List UInt8) (A : Option Addr) (c : Nat) (w : World) (hr : Reads w w.heap.size 3 A l.length (flat l)) (hs : ∀ e ∈ l, e.1.length ≤ maxLen ∧ e.2.2.length ≤ maxLen) (hx : ex.length ≤ maxLen ∧ esy.length ≤ maxLen) (ht : tok.length ≤ maxLen)
    (h0 : (smallL l && smallL [(ex, ec, esy)] && decide (tok.length ≤ 40)) = false) :
    Calls Tryz.prog 5 #[.slice A l.length c, entV (ex, ec, esy), str tok] w fun e w' => e = .returned (.bool true) ∧ Below w.heap.size w w' := by
  have HR := Lib.hid hr; clear hr
  have HS := Lib.hid hs; clear hs
  have HX : Hid (∀ x ∈ [(ex, ec, esy)], x.1.length ≤ maxLen ∧ x.2.2.length ≤ maxLen) := by intro x h; obtain rfl := List.mem_singleton.1 h; exact hx
  clear hx
  unfold maxLen at ht
  have hbox : Hid (∀ W : World, W = w.alloc (.cells #[str ex, byteV ec, str esy] 24) → Blk W w.heap.size 24 #[str ex, byteV ec, str esy] ∧ Below w.heap.size w W) := fun W h => by subst h; exact ⟨Blk.new _ _ _, (Below.refl _ _).alloc (Nat.le_refl _) _⟩
  cases hsm : smallL l
  · have HSM := Lib.hid hsm; clear hsm h0
    go_enter Tryz.func5, Tryz.ntmps5
    go_wp2_with fail
    obtain ⟨W1, hW1⟩ : ∃ W1 : World, W1 = w.alloc (.cells #[str ex, byteV ec, str esy] 24) := ⟨_, rfl⟩
    obtain ⟨hbk, hb1⟩ := hbox.out W1 hW1
    rw [← hW1]
    clear hW1
    go_at_call 8; refine (awake_any _).mono ?_; rintro e w1 ⟨rfl, hb2⟩
    replace hb1 := below_then hb1 hb2; clear hb2
    go_wp2_with fail
    go_at_call 6; refine (small_any l _ _ _ ((HR.out).later hb1) HS.out).mono ?_; rintro e w2 ⟨rfl, rfl⟩; rw [HSM.out]
    go_wp2_with fail
    go_ret
    exact ⟨rfl, hb1⟩
  · rw [hsm, Bool.true_and] at h0
    cases hs1 : smallL [(ex, ec, esy)]
    · have HSM := Lib.hid hsm; have HS1 := Lib.hid hs1; clear hsm hs1 h0
      go_enter Tryz.func5, Tryz.ntmps5
      go_wp2_with fail
      obtain ⟨W1, hW1⟩ : ∃ W1 : World, W1 = w.alloc (.cells #[str ex, byteV ec, str esy] 24) := ⟨_, rfl⟩
      obtain ⟨hbk, hb1⟩ := hbox.out W1 hW1
      rw [← hW1]
      clear hW1
      go_at_call 8; refine (awake_any _).mono ?_; rintro e w1 ⟨rfl, hb2⟩
      replace hbk := hbk.later hb2
      replace hb1 := below_then hb1 hb2; clear hb2
      obtain ⟨k0, k1, k2⟩ := box_cells hbk
      go_wp2_with fail
      go_at_call 6; refine (small_any l _ _ _ ((HR.out).later hb1) HS.out).mono ?_; rintro e w2 ⟨rfl, rfl⟩; rw [HSM.out]
      go_wp2_with fail
      have hb3 : Below w1.heap.size w1 (w1.alloc (.cells #[str ex, byteV ec, str esy] 24)) := (Below.refl _ _).alloc (Nat.le_refl _) _
      have hbn := one_reads (Blk.new w1 24 #[str ex, byteV ec, str esy])
      replace hbk := hbk.later hb3
      replace hb1 := below_then hb1 hb3
      clear k0 k1 k2 hb3
      refine (small_any [(ex, ec, esy)] _ 1 _ hbn HX.out).mono ?_; rintro e w2 ⟨rfl, hw2⟩; rw [HS1.out]
      rw [hw2] at hbk hb1
      clear hw2 hbn
      go_wp2_with fail
      go_ret
      exact ⟨rfl, hb1⟩
    · rw [hs1, Bool.true_and] at h0
      have htk : 40 < tok.length := by simpa using h0
      have HSM := Lib.hid hsm; have HS1 := Lib.hid hs1; clear hsm hs1 h0
      go_enter Tryz.func5, Tryz.ntmps5
      go_wp2_with fail
      obtain ⟨W1, hW1⟩ : ∃ W1 : World, W1 = w.alloc (.cells #[str ex, byteV ec, str esy] 24) := ⟨_, rfl⟩
      obtain ⟨hbk, hb1⟩ := hbox.out W1 hW1
      rw [← hW1]
      clear hW1
      go_at_call 8; refine (awake_any _).mono ?_; rintro e w1 ⟨rfl, hb2⟩
      replace hbk := hbk.later hb2
      replace hb1 := below_then hb1 hb2; clear hb2
      obtain ⟨k0, k1, k2⟩ := box_cells hbk
      go_wp2_with fail
      go_at_call 6; refine (small_any l _ _ _ ((HR.out).later hb1) HS.out).mono ?_; rintro e w2 ⟨rfl, rfl⟩; rw [HSM.out]
      go_wp2_with fail
      have hb3 : Below w1.heap.size w1 (w1.alloc (.cells #[str ex, byteV ec, str esy] 24)) := (Below.refl _ _).alloc (Nat.le_refl _) _
      have hbn := one_reads (Blk.new w1 24 #[str ex, byteV ec, str esy])
      replace hbk := hbk.later hb3
      replace hb1 := below_then hb1 hb3
      clear k0 k1 k2 hb3
      refine (small_any [(ex, ec, esy)] _ 1 _ hbn HX.out).mono ?_; rintro e w2 ⟨rfl, hw2⟩; rw [HS1.out]
      rw [hw2] at hbk hb1
      clear hw2 hbn
      go_wp2_with fail
      go_ret
      exact ⟨rfl, hb1⟩
theorem addR_err {l : List Ent} {e : Ent} (h : ((addR l e).2 != 0) = true) : (addR l e).1 = [] := by
  unfold addR at h ⊢
  split <;> simp_all
  split <;> simp_all
  split <;> simp_all
  split <;> simp_all
set_option maxRecDepth 100000 in
set_option maxHeartbeats 3200000 in
theorem adds_1 (l : List Ent) (ex : List UInt8) (ec : UInt8) (esy tok : List UInt8) (A : Option Addr) (c : Nat) (w : World) (hr : Reads w w.heap.size 3 A l.length (flat l)) (hle : l.length ≤ c) (hsm : smallL l = true) (hs1 : smallL [(ex, ec, esy)] = true) (ht : tok.length ≤ 40)
    (h0 : ((addR l (ex, ec, esy)).2 != 0) = true) :
    Calls Tryz.prog 5 #[.slice A l.length c, entV (ex, ec, esy), str tok] w fun e w' => e = .returned (.bool true) ∧ Below w.heap.size w w' := by
  have HS := Lib.hid (small_big hsm)
  have HX := Lib.hid (small_big hs1)
  have hxl : ex.length ≤ 40 := ((small_each hs1).2 _ (List.mem_singleton.2 rfl)).1
  have HW : Hid (∀ e ∈ l, e.1.length ≤ 1048576) := fun e he => by have := ((small_each hsm).2 e he).1; omega
  have hll := (small_each hsm).1
  have HR := Lib.hid hr; clear hr
  have hbox : Hid (∀ W : World, W = w.alloc (.cells #[str ex, byteV ec, str esy] 24) → Blk W w.heap.size 24 #[str ex, byteV ec, str esy] ∧ Below w.heap.size w W) := fun W h => by subst h; exact ⟨Blk.new _ _ _, (Below.refl _ _).alloc (Nat.le_refl _) _⟩
  have HSM := Lib.hid hsm; have HS1 := Lib.hid hs1; clear hsm hs1
  have hz := addR_err h0
  have HADD := Lib.hid (fun W hr => add_any l (ex, ec, esy) A c W (by omega) HW.out hle hr (show ex.length ≤ _ by omega))
  rw [hz] at HADD
  clear hz
  generalize (addR l (ex, ec, esy)).2 = er at h0 HADD
  go_enter Tryz.func5, Tryz.ntmps5
  go_wp2_with fail
  obtain ⟨W1, hW1⟩ : ∃ W1 : World, W1 = w.alloc (.cells #[str ex, byteV ec, str esy] 24) := ⟨_, rfl⟩
  obtain ⟨hbk, hb1⟩ := hbox.out W1 hW1
  rw [← hW1]
  clear hW1
  go_at_call 8; refine (awake_any _).mono ?_; rintro e w1 ⟨rfl, hb2⟩
  replace hbk := hbk.later hb2
  replace hb1 := below_then hb1 hb2; clear hb2
  obtain ⟨k0, k1, k2⟩ := box_cells hbk
  go_wp2_with fail
  go_at_call 6; refine (small_any l _ _ _ ((HR.out).later hb1) HS.out).mono ?_; rintro e w2 ⟨rfl, rfl⟩; rw [HSM.out]
  go_wp2_with fail
  have hb3 : Below w1.heap.size w1 (w1.alloc (.cells #[str ex, byteV ec, str esy] 24)) := (Below.refl _ _).alloc (Nat.le_refl _) _
  have hbn := one_reads (Blk.new w1 24 #[str ex, byteV ec, str esy])
  replace hbk := hbk.later hb3
  replace hb1 := below_then hb1 hb3
  clear k0 k1 k2 hb3
  refine (small_any [(ex, ec, esy)] _ 1 _ hbn HX.out).mono ?_; rintro e w2 ⟨rfl, hw2⟩; rw [HS1.out]
  rw [hw2] at hbk hb1
  clear hw2 hbn
  obtain ⟨k0, k1, k2⟩ := box_cells hbk
  go_wp2_with fail
  go_at_call 13; refine ((HADD.out) _ ((HR.out).later hb1)).mono ?_; rintro e w3 ⟨A3, c3, rfl, -, -, hb3⟩
  go_wp2_with fail
  go_ret
  exact ⟨rfl, below_then hb1 hb3⟩
theorem unK_skip {k j : Nat} {F : List (Nat × Bool)} {f : Nat × Bool} (hj : F[j]? = some f) (h : f.1 = k) : unK k (F.take (j + 1)) = unK k (F.take j) := by
  rw [List.take_add_one, hj, unK_app]
  simp [unK, h]
theorem unK_keep {k j : Nat} {F G : List (Nat × Bool)} {f : Nat × Bool} (hun : unK k F = G) (hj : F[j]? = some f) (h : f.1 ≠ k) :
    (unK k (F.take j)).length < G.length ∧ G[(unK k (F.take j)).length]? = some (if k < f.1 then f.1 - 1 else f.1, f.2) ∧ (unK k (F.take (j + 1))).length = (unK k (F.take j)).length + 1 := by
  have e : unK k (F.take (j + 1)) = unK k (F.take j) ++ [(if k < f.1 then f.1 - 1 else f.1, f.2)] := by
    rw [List.take_add_one, hj, unK_app]
    simp [unK, h]
  have e2 : G = unK k (F.take j) ++ ((if k < f.1 then f.1 - 1 else f.1, f.2) :: unK k (F.drop (j + 1))) := by
    rw [← hun]
    conv => lhs; rw [← List.take_append_drop (j + 1) F, unK_app, e]
    simp
  refine ⟨by rw [e2]; simp, ?_, by rw [e]; simp⟩
  rw [e2, List.getElem?_append_right (Nat.le_refl _), Nat.sub_self]; rfl
theorem form_in_step {F : List (Nat × Bool)} {n : Nat} (h : n < F.length) (p : Nat) : decide ((p, false) ∈ F.take (n + 1)) = (decide ((p, false) ∈ F.take n) || ((F[n].1 : Int) == (p : Int) && F[n].2 == false)) := by
  rw [List.take_add_one, List.getElem?_eq_getElem h]
  generalize F[n] = f
  obtain ⟨a, b⟩ := f
  rw [Bool.eq_iff_iff]
  simp only [Option.toList_some, decide_eq_true_eq, Bool.or_eq_true, List.mem_append, List.mem_singleton, Prod.mk.injEq, Bool.and_eq_true, beq_iff_eq]
  constructor
  · rintro (h | ⟨h1, h2⟩)
    · exact .inl h
    · exact .inr ⟨by omega, h2.symm⟩
  · rintro (h | ⟨h1, h2⟩)
    · exact .inl h
    · exact .inr ⟨by omega, h2.symm⟩
theorem eqlForm (a b : Int) (x y : Bool) (w : World) : (binOp .eql 40 (.agg #[.int .i64 a, .bool x]) (.agg #[.int .i64 b, .bool y])).run Tryz.prog w = .ok (.bool (a == b && x == y)) w := by
  have u1 := Tryz.underlying3
  have u2 := Tryz.underlying4
  have a1 := Tryz.isAgg3
  have a2 := Tryz.isAgg4
  have z1 := Tryz.sizeOf3
  have z2 := Tryz.sizeOf4
  have hS : Tryz.prog.underlying 40 = some (.struct (Tryz.prog.fieldsOf 40)) := by kernel_rfl
  have hp : Tryz.prog.stoodInHeld 40 = false := by kernel_rfl
  rw [run_eql_struct, show (10000 : Nat) = 9999 + 1 from rfl, run_equalIn_agg w 9999 40 _ _ hS hp]
  simp only [Program.fieldsOf, Tryz.underlying40]
  go_simp
  by_cases h1 : a = b <;> by_cases h2 : x = y <;> simp [h1, h2]
theorem guardForm (op : BinOp) (x y : Operand) (xs ys : Array Value) (w : World) : (eqGuard op 40 x y (.agg xs) (.agg ys)).run Tryz.prog w = .ok () w := run_eqGuard_agg w op _ x y xs ys (by kernel_rfl)
abbrev QLook (l : List Ent) (tok : List UInt8) (F : List (Nat × Bool)) : Prop := ∀ (A : Option Addr) (c : Nat) (W : World), l.length ≤ c → Reads W W.heap.size 3 A l.length (flat l) → Calls Tryz.prog 15 #[.slice A l.length c, str tok] W (LookPost W F 0)
set_option maxRecDepth 100000 in
set_option maxHeartbeats 6400000 in
theorem adds_core (l m : List Ent) (ex : List UInt8) (ec : UInt8) (esy tok : List UInt8) (k : Nat) (F1 F2 F3 : List (Nat × Bool)) (A : Option Addr) (c : Nat) (w : World) (hr : Reads w w.heap.size 3 A l.length (flat l)) (hle : l.length ≤ c) (hsm : smallL l = true) (hs1 : smallL [(ex, ec, esy)] = true) (ht : tok.length ≤ 40)
    (hml : m.length = l.length + 1) (hkm : k < m.length) (hmk : m[k] = (ex, ec, esy)) (hmlo : ∀ i (h : i < m.length), i < k → m[i] ≠ (ex, ec, esy)) (hin : (k, false) ∈ F1) (hun : unK k F3 = F2) (hF1 : F1.length ≤ 1000) (hF2 : F2.length ≤ 1000) (hF3 : F3.length ≤ 1000) (hFb : ∀ f ∈ F3, f.1 ≤ 1000)
    (hadd : ∀ W : World, Reads W W.heap.size 3 A l.length (flat l) → Calls Tryz.prog 13 #[.slice A l.length c, entV (ex, ec, esy)] W (OwnPost W m 0))
    (htw : ∀ (A : Option Addr) (c : Nat) (W : World), m.length ≤ c → Reads W W.heap.size 3 A m.length (flat m) → Calls Tryz.prog 13 #[.slice A m.length c, entV (ex, ec, esy)] W (OwnPost W [] 330))
    (hrem : ∀ (A : Option Addr) (c : Nat) (W : World), m.length ≤ c → Reads W W.heap.size 3 A m.length (flat m) → Calls Tryz.prog 14 #[.slice A m.length c, str ex, byteV ec] W (OwnPost W l 0))
    (hown : QLook m ex F1) (hwas : QLook l tok F2) (hnow : QLook m tok F3)
    (hval : ∀ (A : Option Addr) (c : Nat) (W : World), m.length ≤ c → Reads W W.heap.size 3 A m.length (flat m) → Calls Tryz.prog 17 #[.slice A m.length c] W fun e w' => e = .returned (.bool true) ∧ Below W.heap.size W w') :
    Calls Tryz.prog 5 #[.slice A l.length c, entV (ex, ec, esy), str tok] w fun e w' => e = .returned (.bool true) ∧ Below w.heap.size w w' := by
  have HS := Lib.hid (small_big hsm)
  have HX := Lib.hid (small_big hs1)
  have hll := (small_each hsm).1
  have HR := Lib.hid hr; clear hr
  have hbox : Hid (∀ W : World, W = w.alloc (.cells #[str ex, byteV ec, str esy] 24) → Blk W w.heap.size 24 #[str ex, byteV ec, str esy] ∧ Below w.heap.size w W) := fun W h => by subst h; exact ⟨Blk.new _ _ _, (Below.refl _ _).alloc (Nat.le_refl _) _⟩
  have HSM := Lib.hid hsm; have HS1 := Lib.hid hs1; clear hsm hs1
  have HADD := Lib.hid hadd; have HTW := Lib.hid htw; have HREM := Lib.hid hrem; have HOWN := Lib.hid hown; have HWAS := Lib.hid hwas; have HNOW := Lib.hid hnow; have HVAL := Lib.hid hval
  clear hadd htw hrem hown hwas hnow hval
  have h13 : ((m.length : Int) != (l.length : Int) + 1) = false := by rw [hml]; simp
  have hmb : m.length ≤ 104 := by omega
  have HML := Lib.hid hml; have HMK := Lib.hid hmk; have HMLO := Lib.hid hmlo; have HIN := Lib.hid hin; have HUN := Lib.hid hun; have HFB := Lib.hid hFb
  clear hml hmk hmlo hin hun hFb
  go_enter Tryz.func5, Tryz.ntmps5
  go_wp2_with fail
  obtain ⟨W1, hW1⟩ : ∃ W1 : World, W1 = w.alloc (.cells #[str ex, byteV ec, str esy] 24) := ⟨_, rfl⟩
  obtain ⟨hbk, hb1⟩ := hbox.out W1 hW1
  rw [← hW1]
  clear hW1
  go_at_call 8; refine (awake_any _).mono ?_; rintro e w1 ⟨rfl, hb2⟩
  replace hbk := hbk.later hb2
  replace hb1 := below_then hb1 hb2; clear hb2
  obtain ⟨k0, k1, k2⟩ := box_cells hbk
  go_wp2_with fail
  go_at_call 6; refine (small_any l _ _ _ ((HR.out).later hb1) HS.out).mono ?_; rintro e w2 ⟨rfl, rfl⟩; rw [HSM.out]
  go_wp2_with fail
  have hb3 : Below w1.heap.size w1 (w1.alloc (.cells #[str ex, byteV ec, str esy] 24)) := (Below.refl _ _).alloc (Nat.le_refl _) _
  have hbn := one_reads (Blk.new w1 24 #[str ex, byteV ec, str esy])
  replace hbk := hbk.later hb3
  replace hb1 := below_then hb1 hb3
  clear k0 k1 k2 hb3
  refine (small_any [(ex, ec, esy)] _ 1 _ hbn HX.out).mono ?_; rintro e w2 ⟨rfl, hw2⟩; rw [HS1.out]
  rw [hw2] at hbk hb1
  clear hw2 hbn
  obtain ⟨k0, k1, k2⟩ := box_cells hbk
  go_wp2_with fail
  go_at_call 13; refine ((HADD.out) _ ((HR.out).later hb1)).mono ?_; rintro e w3 ⟨A3, c3, rfl, hc3, hO3, hb3⟩
  have HM3 := Lib.hid (Reads.of_own hO3)
  replace hbk := hbk.later hb3
  replace hb1 := below_then hb1 hb3
  clear k0 k1 k2 hO3 hb3
  obtain ⟨k0, k1, k2⟩ := box_cells hbk
  go_wp2_with fail
  go_at_call 13; refine ((HTW.out) _ _ _ hc3 (HM3.out)).mono ?_; rintro e w4 ⟨A4, c4, rfl, -, -, hb4⟩
  have HM4 := Lib.hid ((HM3.out).later hb4)
  replace hbk := hbk.later hb4
  replace hb1 := below_then hb1 hb4
  clear k0 k1 k2 hb4 HM3
  obtain ⟨k0, k1, k2⟩ := box_cells hbk
  go_wp2_with fail
  go_at_call 14; refine ((HREM.out) _ _ _ hc3 (HM4.out)).mono ?_; rintro e w5 ⟨A5, c5, rfl, hc5, hO5, hb5⟩
  have HB5 := Lib.hid (Reads.of_own hO5)
  have HM5 := Lib.hid ((HM4.out).later hb5)
  replace hbk := hbk.later hb5
  replace hb1 := below_then hb1 hb5
  clear k0 k1 k2 hb5 HM4 hO5
  obtain ⟨k0, k1, k2⟩ := box_cells hbk
  go_wp2_with fail
  go_at_call 15; refine ((HOWN.out) _ _ _ hc3 (HM5.out)).mono ?_; rintro e w6 ⟨A6, c6, rfl, hc6, hF6, hb6⟩
  have HO6 := Lib.hid hF6
  have HB6 := Lib.hid ((HB5.out).later hb6)
  have HM6 := Lib.hid ((HM5.out).later hb6)
  replace hbk := hbk.later hb6
  replace hb1 := below_then hb1 hb6
  clear k0 k1 k2 hb6 HM5 HB5 hF6
  go_wp2_with fail
  go_at_call 15; refine ((HWAS.out) _ _ _ hle ((HR.out).later hb1)).mono ?_; rintro e w7 ⟨A7, c7, rfl, hc7, hF7, hb7⟩
  have HW7 := Lib.hid hF7
  have HO7 := Lib.hid ((HO6.out).later hb7)
  have HB7 := Lib.hid ((HB6.out).later hb7)
  have HM7 := Lib.hid ((HM6.out).later hb7)
  replace hbk := hbk.later hb7
  replace hb1 := below_then hb1 hb7
  clear hb7 HM6 HB6 HO6 hF7
  go_wp2_with fail
  go_at_call 15; refine ((HNOW.out) _ _ _ hc3 (HM7.out)).mono ?_; rintro e w8 ⟨A8, c8, rfl, hc8, hF8, hb8⟩
  have HN8 := Lib.hid hF8
  have HW8 := Lib.hid ((HW7.out).later hb8)
  have HO8 := Lib.hid ((HO7.out).later hb8)
  have HB8 := Lib.hid ((HB7.out).later hb8)
  have HM8 := Lib.hid ((HM7.out).later hb8)
  replace hbk := hbk.later hb8
  replace hb1 := below_then hb1 hb8
  clear hb8 HM7 HB7 HO7 HW7 hF8
  go_wp2_with fail
  go_at_call 16; refine (sameE_any l l _ _ _ _ _ (by omega) (HB8.out) ((HR.out).later hb1)).mono ?_; rintro e w9 ⟨rfl, hb9⟩; rw [show decide (l = l) = true from decide_eq_true rfl]
  have HN9 := Lib.hid ((HN8.out).later hb9)
  have HW9 := Lib.hid ((HW8.out).later hb9)
  have HO9 := Lib.hid ((HO8.out).later hb9)
  have HM9 := Lib.hid ((HM8.out).later hb9)
  replace hbk := hbk.later hb9
  replace hb1 := below_then hb1 hb9
  clear hb9 HM8 HB8 HO8 HW8 HN8
  go_wp2_with fail
  go_at_call 17; refine ((HVAL.out) _ _ _ hc3 (HM9.out)).mono ?_; rintro e w10 ⟨rfl, hb9⟩
  have HN := Lib.hid ((HN9.out).later hb9)
  have HW := Lib.hid ((HW9.out).later hb9)
  have HO := Lib.hid ((HO9.out).later hb9)
  have HM := Lib.hid ((HM9.out).later hb9)
  replace hbk := hbk.later hb9
  replace hb1 := below_then hb1 hb9
  clear hb9 HM9 HO9 HW9 HN9
  go_wp2_with fail
  go_loopw [19] (fun i wr => ∃ p : Nat, p ≤ k ∧ i = .int .i64 p ∧ Below w10.heap.size w10 wr) (fun i _ => k - (intOf i).toNat)
  case atStart => exact ⟨0, Nat.zero_le _, rfl, Below.refl _ _⟩
  case round =>
    obtain ⟨p, hp, rfl, hbl⟩ := hrel
    have hpm : p < m.length := by omega
    obtain ⟨bm, om, rfl, hBm, a0, a1, a2⟩ := ((HM.out).below hbl).ent hpm
    have hbkr := hbk.later hbl
    obtain ⟨k0, k1, k2⟩ := box_cells hbkr
    have hx := fun W => neqEnt m[p] (ex, ec, esy) W
    have hMP : Hid (p < k → m[p] ≠ (ex, ec, esy)) := fun h => (HMLO.out) p hpm h
    have hMK : Hid (p = k → m[p] = (ex, ec, esy)) := fun h => by subst h; exact HMK.out
    generalize m[p] = q at *
    by_cases hlt : p < k
    · rw [show decide (q = (ex, ec, esy)) = false from decide_eq_false (hMP.out hlt)] at hx
      have HLT := Lib.hid hlt
      go_wp2_with fail
      go_quiet (fail)
      go_wp2_with fail
      go_roundw
      case rel => exact ⟨p + 1, by have := HLT.out; omega, by go_num, below_drewN hbl _⟩
      case measure => have := HLT.out; simp [intOf]; omega
    · obtain rfl : p = k := by omega
      rw [show decide (q = (ex, ec, esy)) = true from decide_eq_true (hMK.out rfl)] at hx
      go_wp2_with fail
      go_quiet (fail)
      go_wp2_with fail
      clear hx a0 a1 a2 k0 k1 k2 hbkr hBm hMP hMK hlt hp
      have HM11 := (HM.out).below hbl
      have hbl0 := below_drewN hbl nq
      clear HM11 hbl
      have HB11 := Lib.hid (below_then hb1 hbl0)
      have HN1 := Lib.hid ((HN.out).later hbl0)
      have HW1 := Lib.hid ((HW.out).later hbl0)
      have HO1 := Lib.hid ((HO.out).later hbl0)
      clear HN HW HO HM hbl0 hbk hb1
      generalize wr.drewN nq = w11 at *
      go_loopw [20, 21] (fun fo i wr => ∃ n : Nat, n ≤ F1.length ∧ i = .int .i64 n ∧ fo = .bool (decide ((p, false) ∈ F1.take n)) ∧ Below w11.heap.size w11 wr) (fun _ i _ => F1.length - (intOf i).toNat)
      case atStart => exact ⟨0, Nat.zero_le _, rfl, by simp, Below.refl _ _⟩
      case round =>
        obtain ⟨n, hn, rfl, rfl, hbl⟩ := hrel
        by_cases hlt : n < F1.length
        · have HLT := Lib.hid hlt
          obtain ⟨bf, of, rfl, hBf, c0, c1⟩ := ((HO1.out).below hbl).form hlt (List.getElem?_eq_getElem hlt)
          have HT : Hid (decide ((p, false) ∈ F1.take (n + 1)) = (decide ((p, false) ∈ F1.take n) || ((F1[n].1 : Int) == (p : Int) && F1[n].2 == false))) := by
            exact form_in_step hlt p
          have hx := fun W => eqlForm F1[n].1 p F1[n].2 false W
          generalize F1[n] = f at *
          obtain ⟨fi, fb⟩ := f
          cases hfo : decide ((p, false) ∈ F1.take n)
          · rw [hfo] at HT
            clear hfo
            go_wp2_with fail
            go_roundw
            case rel => exact ⟨n + 1, by have := HLT.out; omega, by go_num, by rw [HT.out]; simp, hbl⟩
            case measure => have := HLT.out; simp [intOf]; omega
          · rw [hfo] at HT
            clear hfo
            go_wp2_with fail
            go_roundw
            case rel => exact ⟨n + 1, by have := HLT.out; omega, by go_num, by rw [HT.out]; rfl, hbl⟩
            case measure => have := HLT.out; simp [intOf]; omega
        · obtain rfl : n = F1.length := by omega
          have hfo : decide ((p, false) ∈ F1.take F1.length) = true := by rw [List.take_length]; exact decide_eq_true HIN.out
          rw [hfo]
          clear hfo
          go_wp2_with fail
          clear hn hlt HO1
          have HB12 := Lib.hid (below_then HB11.out hbl)
          have HN2 := Lib.hid ((HN1.out).later hbl)
          have HW2 := Lib.hid ((HW1.out).later hbl)
          clear HN1 HW1 HB11 hbl
          generalize wr = w12 at *
          go_loopw [22, 23, 24] (fun ns js _ wr => ∃ j : Nat, j ≤ F3.length ∧ js = .int .i64 j ∧ ns = .int .i64 (unK p (F3.take j)).length ∧ Below w12.heap.size w12 wr) (fun _ js _ _ => F3.length - (intOf js).toNat)
          case atStart => exact ⟨0, Nat.zero_le _, rfl, rfl, Below.refl _ _⟩
          case round =>
            obtain ⟨j, hj, rfl, rfl, hbl⟩ := hrel
            by_cases hlt : j < F3.length
            · have HLT := Lib.hid hlt
              obtain ⟨bf, of, rfl, hBf, c0, c1⟩ := ((HN2.out).below hbl).form hlt (List.getElem?_eq_getElem hlt)
              have hfb := (HFB.out) _ (List.getElem_mem hlt)
              have HSK : Hid (F3[j].1 = p → unK p (F3.take (j + 1)) = unK p (F3.take j)) := fun h => unK_skip (List.getElem?_eq_getElem hlt) h
              have HKP : Hid (F3[j].1 ≠ p → (unK p (F3.take j)).length < F2.length ∧ F2[(unK p (F3.take j)).length]? = some (if p < F3[j].1 then F3[j].1 - 1 else F3[j].1, F3[j].2) ∧ (unK p (F3.take (j + 1))).length = (unK p (F3.take j)).length + 1) := fun h => unK_keep HUN.out (List.getElem?_eq_getElem hlt) h
              generalize F3[j] = f at *
              obtain ⟨fi, fb⟩ := f
              simp only at c0 c1 hfb HSK HKP
              by_cases hfp : fi = p
              · have HQ := Lib.hid ((HSK.out) hfp)
                clear HSK HKP
                have hq : ((fi : Int) == (p : Int)) = true := by rw [hfp]; simp
                clear hfp
                go_wp2_with fail
                go_roundw
                case rel => exact ⟨j + 1, by have := HLT.out; omega, by go_num, by rw [HQ.out], hbl⟩
                case measure => have := HLT.out; simp [intOf]; omega
              · obtain ⟨hn1, hn2, hn3⟩ := (HKP.out) hfp
                have HQ := Lib.hid hn3
                clear hn3 HSK HKP
                obtain ⟨bg, og, hA, hBg, d0, d1⟩ := ((HW2.out).below hbl).form hn1 hn2
                cases hA
                clear hn2
                have hq : ((fi : Int) == (p : Int)) = false := by rw [beq_eq_false_iff_ne]; omega
                have hne : (((unK p (F3.take j)).length : Int) == (F2.length : Int)) = false := by rw [beq_eq_false_iff_ne]; omega
                generalize (unK p (F3.take j)).length = n at *
                by_cases hgt : p < fi
                · rw [if_pos hgt] at d0
                  obtain ⟨g, rfl⟩ : ∃ g, fi = g + 1 := ⟨fi - 1, by omega⟩
                  rw [Nat.add_sub_cancel] at d0
                  simp only at d0 d1
                  clear hfp
                  go_wp2_with fail
                  go_quiet (fail)
                  go_wp2_with fail
                  go_roundw
                  case rel => exact ⟨j + 1, by have := HLT.out; omega, by go_num, by rw [HQ.out]; go_num, below_drewN hbl _⟩
                  case measure => have := HLT.out; simp [intOf]; omega
                · rw [if_neg hgt] at d0
                  simp only at d0 d1
                  clear hfp
                  go_wp2_with fail
                  go_quiet (fail)
                  go_wp2_with fail
                  go_roundw
                  case rel => exact ⟨j + 1, by have := HLT.out; omega, by go_num, by rw [HQ.out]; go_num, below_drewN hbl _⟩
                  case measure => have := HLT.out; simp [intOf]; omega
            · obtain rfl : j = F3.length := by omega
              have HQ : Hid ((unK p (F3.take F3.length)).length = F2.length) := Lib.hid (show (unK p (F3.take F3.length)).length = F2.length by rw [List.take_length, HUN.out])
              rw [HQ.out]
              go_wp2_with fail
              go_ret
              exact ⟨rfl, below_then HB12.out hbl⟩
theorem formsFrom_le (tok : List UInt8) : ∀ (l : List Ent) (i : Nat), (formsFrom tok i l).length ≤ l.length
  | [], i => Nat.le_refl _
  | x :: l, i => by
    have := formsFrom_le tok l (i + 1)
    simp only [formsFrom, List.length_append, List.length_cons]
    split <;> simp <;> omega
theorem formsFrom_lt (tok : List UInt8) : ∀ (l : List Ent) (i : Nat), ∀ f ∈ formsFrom tok i l, f.1 < i + l.length
  | [], i, f, h => by simp [formsFrom] at h
  | x :: l, i, f, h => by
    simp only [formsFrom, List.mem_append] at h
    rcases h with h | h
    · split at h
      · obtain rfl := List.mem_singleton.1 h
        simp
      · simp at h
    · have := formsFrom_lt tok l (i + 1) f h
      simp only [List.length_cons]
      omega
theorem put_mem {l : List Ent} {e : Ent} {k : Nat} {o : Ent} (h : o ∈ putL l e k) : o = e ∨ o ∈ l := by
  unfold putL at h
  rcases List.mem_append.1 h with h | h
  · exact .inr (List.mem_of_mem_take h)
  · rcases List.mem_cons.1 h with h | h
    · exact .inl h
    · exact .inr (List.mem_of_mem_drop h)
theorem adds_any (l : List Ent) (e : Ent) (tok : List UInt8) (A : Option Addr) (c : Nat) (w : World) (hr : Reads w w.heap.size 3 A l.length (flat l)) (hle : l.length ≤ c) (hs : ∀ e ∈ l, e.1.length ≤ maxLen ∧ e.2.2.length ≤ maxLen) (hx : e.1.length ≤ maxLen ∧ e.2.2.length ≤ maxLen) (ht : tok.length ≤ maxLen) :
    Calls Tryz.prog 5 #[.slice A l.length c, entV e, str tok] w fun e w' => e = .returned (.bool true) ∧ Below w.heap.size w w' := by
  obtain ⟨ex, ec, esy⟩ := e
  cases h0 : (smallL l && smallL [(ex, ec, esy)] && decide (tok.length ≤ 40))
  · exact adds_0 l ex ec esy tok A c w hr hs hx ht h0
  · simp only [Bool.and_eq_true, decide_eq_true_eq] at h0
    obtain ⟨⟨hsm, hs1⟩, ht4⟩ := h0
    cases h1 : ((addR l (ex, ec, esy)).2 != 0)
    · have h2 : (addR l (ex, ec, esy)).2 = 0 := by simpa using h1
      obtain ⟨e1, hA⟩ := added_of h2
      generalize atL l (ex, ec, esy) = k at e1 hA
      have e1' : (addR l (ex, ec, esy)).1 = putL l (ex, ec, esy) k := e1
      have hml := put_len (e := (ex, ec, esy)) hA.le
      have hfew := hA.few
      have hexl : ex.length ≤ 40 := ((small_each hs1).2 _ (List.mem_singleton.2 rfl)).1
      have hlw : ∀ x ∈ l, x.1.length ≤ 1048576 := fun x hx => by have := ((small_each hsm).2 x hx).1; omega
      have hmw : ∀ x ∈ putL l (ex, ec, esy) k, x.1.length ≤ 1048576 := fun x hx => by
        rcases put_mem hx with rfl | hx
        · show ex.length ≤ _; omega
        · exact hlw x hx
      have hmv := hA.put_valid
      have hkm : k < (putL l (ex, ec, esy) k).length := by have := hA.le; omega
      refine adds_core l (putL l (ex, ec, esy) k) ex ec esy tok k (formsFrom ex 0 (putL l (ex, ec, esy) k)) (formsFrom tok 0 l) (formsFrom tok 0 (putL l (ex, ec, esy) k)) A c w hr hle hsm hs1 ht4 hml hkm ?_ ?_ (own_form_in (e := (ex, ec, esy)) hA.le) (unK_forms hA.le tok) ?_ ?_ ?_ ?_ ?_ ?_ ?_ ?_ ?_ ?_ ?_
      · have := put_at (e := (ex, ec, esy)) hA.le
        rw [List.getElem?_eq_getElem hkm] at this
        exact Option.some.inj this
      · intro i hi hik he
        have h3 := put_lo (e := (ex, ec, esy)) hA.le hik
        have hil : i < l.length := by have := hA.le; omega
        rw [List.getElem?_eq_getElem hi, List.getElem?_eq_getElem hil] at h3
        have h4 := hA.lo i hil hik
        rw [← Option.some.inj h3, he, cmpL_self] at h4
        omega
      · have := formsFrom_le ex (putL l (ex, ec, esy) k) 0; omega
      · have := formsFrom_le tok l 0; omega
      · have := formsFrom_le tok (putL l (ex, ec, esy) k) 0; omega
      · intro f hf
        have := formsFrom_lt tok (putL l (ex, ec, esy) k) 0 f hf; omega
      · intro W hrW
        have h := add_any l (ex, ec, esy) A c W (by omega) hlw hle hrW (show ex.length ≤ _ by omega)
        rw [e1', h2] at h
        exact h
      · intro A c W hc hrW
        have h := add_any (putL l (ex, ec, esy) k) (ex, ec, esy) A c W (by omega) hmw hc hrW (show ex.length ≤ _ by omega)
        rw [hA.twice] at h
        exact h
      · intro A c W hc hrW
        have h := remove_any (putL l (ex, ec, esy) k) ex ec A c W (by omega) hmw hc hrW
        rw [show removeR (putL l (ex, ec, esy) k) ex ec = (l, 0) from hA.back] at h
        exact h
      · intro A c W hc hrW
        have h := look_any (putL l (ex, ec, esy) k) ex A c W hmw hc hrW
        rw [look_forms hmv] at h
        exact h
      · intro A c W hc hrW
        have h := look_any l tok A c W hlw hc hrW
        rw [look_forms hA.valid] at h
        exact h
      · intro A c W hc hrW
        have h := look_any (putL l (ex, ec, esy) k) tok A c W hmw hc hrW
        rw [look_forms hmv] at h
        exact h
      · intro A c W hc hrW
        have h := valid_any (putL l (ex, ec, esy) k) A c W (fun x hx => by have := hmw x hx; omega) hc hrW
        rw [hmv] at h
        exact h
    · exact adds_1 l ex ec esy tok A c w hr hle hsm hs1 ht4 h1
end Go.Proofs.YtbbgieopcmjoeaaGreatDoor
