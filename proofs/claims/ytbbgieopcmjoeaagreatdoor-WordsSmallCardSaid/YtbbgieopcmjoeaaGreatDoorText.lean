/- package words: the text of tokens. -/
import Derived.Test.YtbbgieopcmjoeaaGreatDoorShape
namespace Go.Proofs.YtbbgieopcmjoeaaGreatDoor
open Go.RowKit
def upU (b : UInt8) : UInt8 := Lib.upperB b
def capT (t : List UInt8) : List UInt8 := if isFn t then (match t with | [] => [] | b :: r => upU b :: r) else t
def sepT (t : List UInt8) : List UInt8 := if t == [44] || t == [46] then [] else [32]
def joinT : List UInt8 → List (List UInt8) → List UInt8
  | acc, [] => acc
  | acc, t :: r => joinT (acc ++ sepT t ++ t) r
def joinK (l : List (List UInt8)) (k : Nat) : List UInt8 := joinT (capT (l.headD [])) ((l.drop 1).take k)
theorem joinT_snoc (t : List UInt8) : ∀ (r : List (List UInt8)) (acc : List UInt8), joinT acc (r ++ [t]) = joinT acc r ++ sepT t ++ t
  | [], acc => rfl
  | x :: r, acc => by simp only [List.cons_append, joinT]; exact joinT_snoc t r _
theorem joinK_succ (l : List (List UInt8)) (k : Nat) (hk : k + 1 < l.length) : joinK l (k + 1) = joinK l k ++ sepT l[k + 1] ++ l[k + 1] := by
  unfold joinK
  rw [List.take_succ_eq_append_getElem (by simp; omega), joinT_snoc]
  simp
theorem capT_len (t : List UInt8) : (capT t).length = t.length := by
  unfold capT
  split
  · cases t <;> rfl
  · rfl
theorem sepT_len (t : List UInt8) : (sepT t).length ≤ 1 := by unfold sepT; split <;> simp
theorem joinT_len (m : Nat) : ∀ (r : List (List UInt8)) (acc : List UInt8), (∀ t ∈ r, t.length ≤ m) → (joinT acc r).length ≤ acc.length + r.length * (m + 1)
  | [], acc, _ => by simp [joinT]
  | t :: r, acc, h => by
    have h1 := joinT_len m r (acc ++ sepT t ++ t) (fun x hx => h x (by simp [hx]))
    have h2 := h t (by simp)
    have h3 := sepT_len t
    have e : (r.length + 1) * (m + 1) = r.length * (m + 1) + (m + 1) := by rw [Nat.add_mul, Nat.one_mul]
    simp only [joinT, List.length_cons, List.length_append] at h1 ⊢
    omega
theorem joinK_len (l : List (List UInt8)) (k : Nat) (hl : l.length ≤ 1048576) (ht : ∀ t ∈ l, t.length ≤ 1048576) : (joinK l k).length ≤ 2199025352704 := by
  unfold joinK
  have h1 := joinT_len 1048576 ((l.drop 1).take k) (capT (l.headD [])) (fun t h => ht t (List.mem_of_mem_drop (List.mem_of_mem_take h)))
  have h2 : ((l.drop 1).take k).length ≤ 1048576 := by simp; omega
  have h3 : (capT (l.headD [])).length ≤ 1048576 := by
    rw [capT_len]
    cases l with
    | nil => simp
    | cons t r => exact ht t (by simp)
  have h4 : ((l.drop 1).take k).length * 1048577 ≤ 1048576 * 1048577 := Nat.mul_le_mul_right _ h2
  omega
def textR (l : List (List UInt8)) : List UInt8 × Int :=
  if shapeL l then (if 1000 < (joinK l l.length).length then ([], 3) else (joinK l l.length, 0)) else ([], 2)
theorem shape_len {l : List (List UInt8)} (h : shapeL l = true) : 2 ≤ l.length := by
  cases l with
  | nil => cases h
  | cons t r =>
    cases r with
    | cons => simp
    | nil =>
      unfold shapeL at h
      simp only [Bool.and_eq_true] at h
      obtain ⟨hw, _, hd, _⟩ := h
      have hne : (t == [46]) = false := by
        cases ht : (t == [46])
        · rfl
        · rw [beq_iff_eq] at ht
          subst ht
          exact absurd hw (by decide)
      have : dotAt [t] = 1 := by simp [dotAt, firstIdx, atT, hne]
      rw [this] at hd
      exact absurd hd (by simp)
theorem upper_any (b : UInt8) (w : World) (hb : b.toNat < 128) : Calls Tryz.prog 67 #[str [b]] w fun e w' => e = .returned (str [upU b]) ∧ Below w.heap.size w w' := by
  refine (Tryz.strings_ToUpper_ascii ⟨[b].toArray⟩ w (by show 1 ≤ _; omega) (fun j x h => ?_)).mono ?_
  · obtain ⟨hj, rfl⟩ := List.getElem?_eq_some_iff.1 (show [b][j]? = some x from h)
    have : j = 0 := by simpa using hj
    subst this
    exact hb
  · rintro e w' ⟨rfl, hb⟩
    exact ⟨rfl, hb⟩
theorem joinK_zero (l : List (List UInt8)) : joinK l 0 = capT (l.headD []) := by unfold joinK; simp [joinT]
set_option maxRecDepth 100000 in
set_option maxHeartbeats 1600000 in
theorem text_any (l : List (List UInt8)) (A : Option Addr) (c : Nat) (w : World) (hl : l.length ≤ 1048576) (hcap : l.length ≤ c) (ht : ∀ t ∈ l, t.length ≤ 1048576) (hr : Reads w w.heap.size 1 A l.length (l.map str)) :
    Calls Tryz.prog 28 #[.slice A l.length c] w fun e w' => e = .returned (.tuple #[str (textR l).1, .int .i64 (textR l).2]) ∧ Below w.heap.size w w' := by
  have HSH := Lib.hid (shape_any l A c w hl ht hr)
  cases hs : shapeL l
  · have HS := Lib.hid hs
    have HT : Hid (textR l = ([], 2)) := by unfold textR; rw [hs]; rfl
    clear hs hr ht
    go_enter Tryz.func28, Tryz.ntmps28
    go_wp2_with (go_at_call 66; refine (HSH.out).mono ?_; rintro e w1 ⟨rfl, hb1⟩; rw [HS.out])
    go_ret2
    exact ⟨by rw [HT.out]; rfl, hb1⟩
  · have HS := Lib.hid hs
    have h2 := shape_len hs
    have hc1 : ¬ c = 1 := by omega
    obtain ⟨t, r, hl0⟩ : ∃ t r, l = t :: r := by cases l with
      | nil => cases hs
      | cons t r => exact ⟨t, r, rfl⟩
    have htm : t.length ≤ 1048576 := ht t (by rw [hl0]; simp)
    obtain ⟨b, off, rfl, hB, hc⟩ := hr.at1 (u := str t) (show 0 < l.length by omega) (by rw [hl0]; rfl)
    simp only [Nat.add_zero] at hc
    have hw : wordL t = true := by
      rw [hl0] at hs; unfold shapeL at hs; simp only [Bool.and_eq_true] at hs; exact hs.1
    have HA := Lib.hid (wordL_all hw)
    have hhead : l.headD [] = t := by rw [hl0]; rfl
    have HH := Lib.hid hhead
    have hjl := joinK_len l 0 hl ht
    have HR := Lib.hid hr
    have HT := Lib.hid ht
    have HL := Lib.hid hl0
    clear hr ht hl0 hs hw hhead
    cases hf : isFn t
    · have HF := Lib.hid hf
      have hj0 : joinK l 0 = t := by rw [joinK_zero, HH.out]; unfold capT; rw [hf]; rfl
      have HJ := Lib.hid hj0
      clear hf hj0 hjl
      go_enter Tryz.func28, Tryz.ntmps28
      go_wp2_with (first
        | (go_at_call 66; refine (HSH.out).mono ?_; rintro e w1 ⟨rfl, hb1⟩; rw [HS.out]; have hc2 := (hb1.cell (p := ⟨b, off, none⟩) hB).trans hc)
        | (go_at_call 35; refine (function_any _ _).mono ?_; rintro e w2 ⟨rfl, hb2⟩; rw [HF.out]))
      go_loopw [4, 24] (fun sv i wr => ∃ k : Nat, k + 1 ≤ l.length ∧ i = .int .i64 k ∧ sv = str (joinK l k) ∧ Below w.heap.size w wr) (fun _ i _ => l.length - (intOf i).toNat)
      case atStart => exact ⟨0, by omega, rfl, by rw [HJ.out], below_then hb1 hb2⟩
      case round =>
        obtain ⟨k, hk, rfl, rfl, hb⟩ := hrel
        by_cases hlt : k + 1 < l.length
        · have hJs := joinK_succ l k hlt
          have hjl := joinK_len l k hl HT.out
          have hxm := HT.out _ (List.getElem_mem hlt)
          have hce := ((HR.out).below hb).at1 (k := k + 1) (u := str l[k + 1]) hlt (by simp [hlt])
          obtain ⟨b', off', hA, _, hce⟩ := hce
          cases hA
          rw [show off + (k + 1) = off + 1 + k from by omega] at hce
          have hkl : (k : Int) < ((l.length - 1 : Nat) : Int) := by omega
          have HJS := Lib.hid hJs; clear hJs
          generalize l[k + 1] = x at hce hxm HJS
          cases hc1x : (x == [44]) <;> cases hc2x : (x == [46])
          all_goals
            have HS2 : Hid (sepT x = if (x == [44]) || (x == [46]) then [] else [32]) := rfl
            rw [hc1x, hc2x] at HS2
            go_wp2_with fail
            go_roundw
            case rel => exact ⟨k + 1, by omega, by go_num, by rw [(HJS).out, (HS2).out]; simp [ByteArray.mk_append_mk], hb⟩
            case measure => simp [intOf]; omega
        · have hkl : ¬ (k : Int) < ((l.length - 1 : Nat) : Int) := by omega
          have hend : joinK l k = joinK l l.length := by
            unfold joinK
            rw [List.take_of_length_le (by simp; omega), List.take_of_length_le (by simp)]
          by_cases hbig : 1000 < (joinK l k).length
          · have HX : Hid (textR l = ([], 3)) := by unfold textR; rw [HS.out, ← hend, if_pos hbig]; rfl
            clear hend
            go_wp2_with fail
            go_ret2
            exact ⟨by rw [HX.out]; rfl, hb⟩
          · have HX : Hid (textR l = (joinK l k, 0)) := by unfold textR; rw [HS.out, ← hend, if_neg hbig]; rfl
            clear hend
            go_wp2_with fail
            go_ret2
            exact ⟨by rw [HX.out]; rfl, hb⟩
    · have HF := Lib.hid hf
      have hj0 : joinK l 0 = capT t := by rw [joinK_zero, HH.out]
      have HJ := Lib.hid hj0
      clear hf hj0 hjl
      go_enter Tryz.func28, Tryz.ntmps28
      go_wp2_with (first
        | (go_at_call 66; refine (HSH.out).mono ?_; rintro e w1 ⟨rfl, hb1⟩; rw [HS.out]; have hc2 := (hb1.cell (p := ⟨b, off, none⟩) hB).trans hc)
        | (go_at_call 35; refine (function_any _ _).mono ?_; rintro e w2 ⟨rfl, hb2⟩; rw [HF.out]))
      obtain ⟨q, rs, rfl⟩ : ∃ q rs, t = q :: rs := by cases t with
        | nil => exact absurd HF.out (by decide)
        | cons q rs => exact ⟨q, rs, rfl⟩
      have hq : q.toNat < 128 := by
        have := HA.out
        simp only [List.all_cons, Bool.and_eq_true] at this
        exact letU_ascii this.1
      have hx1 := tail_ex q rs
      have hx0 : (ByteArray.mk (q :: rs).toArray).extract 0 1 = ⟨[q].toArray⟩ := by rw [ByteArray.extract_mk]; rfl
      have hl1 : (1 : Int) ≤ (rs.length : Int) + 1 := by omega
      have hov : (9223372036854775807 < 1 + rs.length) = False := eq_false (by simp at htm; omega)
      have hbw := below_then hb1 hb2
      refine wp_region_held_drew (S := fun W => Below w.heap.size w W) (by kernel_rfl) (by exact hbw.drew) (fun hHeld => ?_)
      refine wpAnyH_take (i := 0) (oi := { dst := some 15, op := Op.move (Operand.tmp 4), type := 9, pos := "words.go:245", after := #[], guard := none }) (v := ?v1_0) (by kernel_rfl) (by kernel_rfl) (by kernel_rfl) (by kernel_rfl) (fun _ _ _ h => h) (Or.inl ⟨by kernel_rfl, ?h1_0⟩) hHeld ?r1_0
      case h1_0 => (intro w hSw; (try dsimp only at hSw); go_simp; try with_reducible rfl)
      try simp only [Act.put, List.setIfInBounds_toArray, List.set_cons_zero, List.set_cons_succ]
      refine wpAnyH_take (i := 1) (oi := { dst := some 16, op := Op.slice 9 (Operand.tmp 15) none (some (Operand.const (Value.int IntKind.i64 1))) none, type := 9, pos := "words.go:245", after := #[{ on := 0, ground := Ground.data }], guard := none }) (v := ?v1_1) (by kernel_rfl) (by kernel_rfl) (by kernel_rfl) (by kernel_rfl) (fun _ _ _ h => h) (Or.inl ⟨by kernel_rfl, ?h1_1⟩) hHeld ?r1_1
      case h1_1 => (intro w hSw; (try dsimp only at hSw); go_simp; try with_reducible rfl)
      try simp only [Act.put, List.setIfInBounds_toArray, List.set_cons_zero, List.set_cons_succ]
      refine wpAnyH_take (i := 3) (oi := { dst := some 18, op := Op.move (Operand.tmp 4), type := 9, pos := "words.go:245", after := #[], guard := none }) (v := ?v1_3) (by kernel_rfl) (by kernel_rfl) (by kernel_rfl) (by kernel_rfl) (fun _ _ _ h => h) (Or.inl ⟨by kernel_rfl, ?h1_3⟩) hHeld ?r1_3
      case h1_3 => (intro w hSw; (try dsimp only at hSw); go_simp; try with_reducible rfl)
      try simp only [Act.put, List.setIfInBounds_toArray, List.set_cons_zero, List.set_cons_succ]
      refine wpAnyH_take (i := 4) (oi := { dst := some 19, op := Op.slice 9 (Operand.tmp 18) (some (Operand.const (Value.int IntKind.i64 1))) none none, type := 9, pos := "words.go:245", after := #[{ on := 3, ground := Ground.data }], guard := none }) (v := ?v1_4) (by kernel_rfl) (by kernel_rfl) (by kernel_rfl) (by kernel_rfl) (fun _ _ _ h => h) (Or.inl ⟨by kernel_rfl, ?h1_4⟩) hHeld ?r1_4
      case h1_4 => (intro w hSw; (try dsimp only at hSw); go_simp; try with_reducible rfl)
      try simp only [Act.put, List.setIfInBounds_toArray, List.set_cons_zero, List.set_cons_succ]
      refine wpAnyH_ready (rs := [2]) (by kernel_rfl) (by simp) ?_
      refine AllReadyH.cons (i := 2) (o := { dst := some 17, op := Op.call { callee := Callee.value (Operand.func 67), args := #[Operand.tmp 16], argTypes := #[9] }, type := 9, pos := "words.go:245", after := #[{ on := 1, ground := Ground.data }], guard := none }) rfl (fun K hK => ?_) AllReadyH.nil
      go_simp
      refine (upper_any q _ hq).mono ?_
      rintro e w3 ⟨rfl, hb3⟩
      go_wp2_with fail
      refine hK.out _ _ (by exact below_then (by assumption) (by assumption)) (fun hHeld => ?_)
      clear hK K
      try simp only [Act.put, List.setIfInBounds_toArray, List.set_cons_zero, List.set_cons_succ]
      refine wpAnyH_take (i := 5) (oi := { dst := some 20, op := Op.binOp BinOp.add 9 (Operand.tmp 17) (Operand.tmp 19) 9, type := 9, pos := "words.go:245", after := #[{ on := 2, ground := Ground.data }, { on := 4, ground := Ground.data }], guard := none }) (v := ?v1_5) (by kernel_rfl) (by kernel_rfl) (by kernel_rfl) (by kernel_rfl) (fun _ _ _ h => h) (Or.inl ⟨by kernel_rfl, ?h1_5⟩) hHeld ?r1_5
      case h1_5 => (intro w hSw; (try dsimp only at hSw); go_simp; try with_reducible rfl)
      try simp only [Act.put, List.setIfInBounds_toArray, List.set_cons_zero, List.set_cons_succ]
      refine wpAnyH_take (i := 6) (oi := { dst := some 4, op := Op.assign (Operand.tmp 20), type := 9, pos := "words.go:245", after := #[{ on := 5, ground := Ground.data }, { on := 2, ground := Ground.chain }, { on := 0, ground := Ground.phase }, { on := 1, ground := Ground.phase }, { on := 2, ground := Ground.phase }, { on := 3, ground := Ground.phase }, { on := 4, ground := Ground.phase }, { on := 5, ground := Ground.phase }], guard := none }) (v := ?v1_6) (by kernel_rfl) (by kernel_rfl) (by kernel_rfl) (by kernel_rfl) (fun _ _ _ h => h) (Or.inl ⟨by kernel_rfl, ?h1_6⟩) hHeld ?r1_6
      case h1_6 => (intro w hSw; (try dsimp only at hSw); go_simp; try with_reducible rfl)
      try simp only [Act.put, List.setIfInBounds_toArray, List.set_cons_zero, List.set_cons_succ]
      refine wpAnyH_done (by kernel_rfl) ?_ _
      clear hov
      go_wp2_with fail
      go_loopw [4, 24] (fun sv i wr => ∃ k : Nat, k + 1 ≤ l.length ∧ i = .int .i64 k ∧ sv = str (joinK l k) ∧ Below w.heap.size w wr) (fun _ i _ => l.length - (intOf i).toNat)
      case atStart => exact ⟨0, by omega, rfl, by rw [HJ.out]; unfold capT; rw [HF.out]; rfl, hHeld⟩
      case round =>
        obtain ⟨k, hk, rfl, rfl, hb⟩ := hrel
        by_cases hlt : k + 1 < l.length
        · have hJs := joinK_succ l k hlt
          have hjl := joinK_len l k hl HT.out
          have hxm := HT.out _ (List.getElem_mem hlt)
          have hce := ((HR.out).below hb).at1 (k := k + 1) (u := str l[k + 1]) hlt (by simp [hlt])
          obtain ⟨b', off', hA, _, hce⟩ := hce
          cases hA
          rw [show off + (k + 1) = off + 1 + k from by omega] at hce
          have hkl : (k : Int) < ((l.length - 1 : Nat) : Int) := by omega
          have HJS := Lib.hid hJs; clear hJs
          generalize l[k + 1] = x at hce hxm HJS
          cases hc1x : (x == [44]) <;> cases hc2x : (x == [46])
          all_goals
            have HS2 : Hid (sepT x = if (x == [44]) || (x == [46]) then [] else [32]) := rfl
            rw [hc1x, hc2x] at HS2
            go_wp2_with fail
            go_roundw
            case rel => exact ⟨k + 1, by omega, by go_num, by rw [(HJS).out, (HS2).out]; simp [ByteArray.mk_append_mk], hb⟩
            case measure => simp [intOf]; omega
        · have hkl : ¬ (k : Int) < ((l.length - 1 : Nat) : Int) := by omega
          have hend : joinK l k = joinK l l.length := by
            unfold joinK
            rw [List.take_of_length_le (by simp; omega), List.take_of_length_le (by simp)]
          by_cases hbig : 1000 < (joinK l k).length
          · have HX : Hid (textR l = ([], 3)) := by unfold textR; rw [HS.out, ← hend, if_pos hbig]; rfl
            clear hend
            go_wp2_with fail
            go_ret2
            exact ⟨by rw [HX.out]; rfl, hb⟩
          · have HX : Hid (textR l = (joinK l k, 0)) := by unfold textR; rw [HS.out, ← hend, if_neg hbig]; rfl
            clear hend
            go_wp2_with fail
            go_ret2
            exact ⟨by rw [HX.out]; rfl, hb⟩
end Go.Proofs.YtbbgieopcmjoeaaGreatDoor
