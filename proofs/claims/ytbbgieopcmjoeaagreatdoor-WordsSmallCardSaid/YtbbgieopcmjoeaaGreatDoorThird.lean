/- package words: third forms, articles. -/
import Derived.Test.YtbbgieopcmjoeaaGreatDoorValid
import Derived.Deep.QuietTactic
import Derived.BigQuiet
import Derived.Laws.EntriesVeiled
namespace Go.Proofs.YtbbgieopcmjoeaaGreatDoor
open Go.RowKit
def vowU (b : UInt8) : Bool := b == 97 || b == 101 || b == 105 || b == 111 || b == 117
def sibE : List (List UInt8) := [[115], [120], [122], [99, 104], [115, 104]]
def sibL (l : List UInt8) : Bool := sibE.any fun e => Lib.hasSuffix l e
theorem ending11_any (l x : List UInt8) (B : Nat) (w : World) (hm : l.length ≤ 140737488355328) (hc : w.cell? ⟨B, 0, none⟩ = some (str l)) :
    Calls Tryz.prog 92 #[str x, .pointer (some ⟨B, 0, none⟩)] w fun e w' => e = .returned (.bool (Lib.hasSuffix l x)) ∧ w = w' := by
  go_enter Tryz.func92, Tryz.ntmps92
  go_wp2_with (go_at_call 93; refine (Tryz.strings_HasSuffix ⟨l.toArray⟩ ⟨x.toArray⟩ _ (by show l.length ≤ _; omega)).mono ?_; rintro e w' ⟨rfl, rfl⟩)
  go_ret
  exact ⟨rfl, rfl⟩
theorem enters_ending11 : Enters Tryz.prog 92 := enters_of Tryz.func92 (by kernel_rfl) rfl
theorem contains_sib (l : List UInt8) (cs : List Value) (hcs : cs = sibE.map str) (w : World) (hm : l.length ≤ 140737488355328) :
    Calls Tryz.prog 91 #[.slice (some ⟨w.heap.size + 1, 0, none⟩) 5 5, .func (.func 92) #[] #[.pointer (some ⟨w.heap.size, 0, none⟩)]] ((w.alloc (.cells #[str l] 9)).alloc (.cells cs.toArray 9)) fun e w' =>
      e = .returned (.bool (sibL l)) ∧ Below w.heap.size w w' := by
  obtain ⟨W, hW⟩ : ∃ W : World, W = (w.alloc (.cells #[str l] 9)).alloc (.cells cs.toArray 9) := ⟨_, rfl⟩
  have hr := Reads.new (w.alloc (.cells #[str l] 9)) 9 1 5 cs (by rw [hcs]; rfl)
  have hbk := (Blk.new w 9 #[str l]).alloc (.cells cs.toArray 9)
  have hb : Below w.heap.size w W := hW ▸ ((Below.refl _ _).alloc (Nat.le_refl _) _).alloc (by simp) _
  rw [World.size_alloc] at hr
  rw [← hW] at hr hbk ⊢
  have hz : W.heap.size = w.heap.size + 2 := by rw [hW]; simp
  have hp : Pred 92 [.pointer (some ⟨w.heap.size, 0, none⟩)] (fun i => cs.getD i undef) 5 (fun i => Lib.hasSuffix l (sibE.getD i [])) W := fun i hi W' hb' => by
    have e : cs.getD i undef = str (sibE.getD i []) := by
      rw [hcs]
      have : i < sibE.length := hi
      simp [this]
    have hcell : W'.cell? ⟨w.heap.size, 0, none⟩ = some (str l) := (hb'.cell (p := ⟨w.heap.size, 0, none⟩) hbk.lt).trans (hbk.cell 0)
    show Calls Tryz.prog 92 #[cs.getD i undef, .pointer (some ⟨w.heap.size, 0, none⟩)] W' _
    rw [e]
    exact (ending11_any l _ _ W' hm hcell).mono fun e w' ⟨a, b⟩ => ⟨a, b ▸ Below.refl _ _⟩
  have h := containsFunc_string (some ⟨w.heap.size + 1, 0, none⟩) 5 5 cs 92 enters_ending11 [.pointer (some ⟨w.heap.size, 0, none⟩)] _ W (by omega) (hr.more (by omega)) hp
  have e2 := anyIdx_list (fun e => Lib.hasSuffix l e) sibE (fun i => Lib.hasSuffix l (sibE.getD i [])) (fun i hi => by simp [hi])
  rw [show (5 : Nat) = sibE.length from rfl, e2] at h
  exact h.mono fun e w' ⟨a, b⟩ => ⟨a, below_then hb b⟩
set_option maxRecDepth 100000 in
theorem ending1_any (l : List UInt8) (v : Bool) (w : World) (hm : l.length ≤ 140737488355328) : Calls Tryz.prog 90 #[str l, .bool v] w fun e w' => e = .returned (.bool (sibL l)) ∧ Below w.heap.size w w' := by
  have HK := Lib.hid (contains_sib l _ rfl w hm)
  go_enter Tryz.func90, Tryz.ntmps90
  go_wp2_with (go_at_call 91; refine (HK.out).mono ?_; rintro e w' ⟨rfl, hb⟩)
  go_ret
  exact ⟨rfl, hb⟩
def lastIs (l : List UInt8) (v : Bool) (b : UInt8) : Bool := decide (1 < l.length) && (!v && l.getD (l.length - 1) 0 == b)
theorem ba_get (l : List UInt8) (k : Nat) (h : k < (ByteArray.mk l.toArray).size) : (ByteArray.mk l.toArray)[k]'h = l.getD k 0 := by
  have hk : k < l.length := h
  rw [List.getD_eq_getElem?_getD, List.getElem?_eq_getElem hk]
  rfl
theorem u8_beqN (b : UInt8) (n : Nat) (_hn : n < 256) : ((b.toNat : Int) == ((UInt8.ofNat n).toNat : Int)) = (b == UInt8.ofNat n) := by
  rw [Bool.eq_iff_iff, beq_iff_eq, beq_iff_eq, ← UInt8.toNat_inj]; omega
theorem u8_beq111 (b : UInt8) : ((b.toNat : Int) == 111) = (b == 111) := u8_beqN b 111 (by omega)
theorem u8_beq121 (b : UInt8) : ((b.toNat : Int) == 121) = (b == 121) := u8_beqN b 121 (by omega)
set_option maxRecDepth 100000 in
theorem ending2_any (l : List UInt8) (v : Bool) (w : World) (hm : l.length ≤ 140737488355328) : Calls Tryz.prog 94 #[str l, .bool v] w fun e w' => e = .returned (.bool (lastIs l v 111)) ∧ w = w' := by
  rcases Nat.lt_or_ge 1 l.length with h1 | h1
  · cases v
    · have hj0 : (0 : Int) ≤ (l.length : Int) - 1 := by omega
      have hj1 : (l.length : Int) - 1 < (l.length : Int) := by omega
      go_enter Tryz.func94, Tryz.ntmps94
      go_wp2_with fail
      go_ret
      exact ⟨ret_bool (by rw [ba_get, u8_beq111]; simp [lastIs, h1]), rfl⟩
    · go_enter Tryz.func94, Tryz.ntmps94
      go_wp2_with fail
      go_ret
      exact ⟨ret_bool (by simp [lastIs]), rfl⟩
  · go_enter Tryz.func94, Tryz.ntmps94
    go_wp2_with fail
    go_ret
    exact ⟨ret_bool (by simp [lastIs]; omega), rfl⟩
set_option maxRecDepth 100000 in
theorem ending3_any (l : List UInt8) (v : Bool) (w : World) (hm : l.length ≤ 140737488355328) : Calls Tryz.prog 95 #[str l, .bool v] w fun e w' => e = .returned (.bool (lastIs l v 121)) ∧ w = w' := by
  rcases Nat.lt_or_ge 1 l.length with h1 | h1
  · cases v
    · have hj0 : (0 : Int) ≤ (l.length : Int) - 1 := by omega
      have hj1 : (l.length : Int) - 1 < (l.length : Int) := by omega
      go_enter Tryz.func95, Tryz.ntmps95
      go_wp2_with fail
      go_ret
      exact ⟨ret_bool (by rw [ba_get, u8_beq121]; simp [lastIs, h1]), rfl⟩
    · go_enter Tryz.func95, Tryz.ntmps95
      go_wp2_with fail
      go_ret
      exact ⟨ret_bool (by simp [lastIs]), rfl⟩
  · go_enter Tryz.func95, Tryz.ntmps95
    go_wp2_with fail
    go_ret
    exact ⟨ret_bool (by simp [lastIs]; omega), rfl⟩
theorem ending4_any (l : List UInt8) (v : Bool) (w : World) : Calls Tryz.prog 96 #[str l, .bool v] w fun e w' => e = .returned (.bool true) ∧ w = w' := by
  go_enter Tryz.func96, Tryz.ntmps96
  go_wp2_with fail
  go_ret
  exact ⟨rfl, rfl⟩
abbrev fitV (g : Nat) : Value := .func (.func g) #[] #[]
theorem endings_any (w : World) : Calls Tryz.prog 62 #[] w fun e w' => e = .returned (.agg #[fitV 90, num 0, str [101, 115], fitV 94, num 0, str [101, 115], fitV 95, num 1, str [105, 101, 115], fitV 96, num 0, str [115]]) ∧ Below w.heap.size w w' := by
  go_enter Tryz.func62, Tryz.ntmps62
  go_wp2_with fail
  go_returns
  exact ⟨rfl, (Below.refl _ _).alloc (Nat.le_refl _) _⟩
def vowI (b : UInt8) : Int := Lib.indexByte [97, 101, 105, 111, 117] b
theorem vowI_iff (b : UInt8) : decide (0 ≤ vowI b) = vowU b := by
  have h : ∀ c : UInt8, (c == b) = (b == c) := fun c => by rw [Bool.beq_comm]
  unfold vowI vowU
  simp only [Lib.indexByte, h]
  cases b == 97 <;> cases b == 101 <;> cases b == 105 <;> cases b == 111 <;> cases b == 117 <;> rfl
theorem indexVow_any (b : UInt8) (w : World) : Calls Tryz.prog 61 #[str [97, 101, 105, 111, 117], byteV b] w fun e w' => e = .returned (.int .i64 (vowI b)) ∧ w = w' := by
  refine (Tryz.strings_IndexByte ⟨[97, 101, 105, 111, 117].toArray⟩ b.toNat w).mono ?_
  rintro e w' ⟨rfl, rfl⟩
  exact ⟨ret_int (by unfold vowI; congr 1; simp), rfl⟩
/-- The third form of a plain word. -/
def thirdL (l : List UInt8) : List UInt8 :=
  if sibL l then l ++ [101, 115]
  else if lastIs l (decide (1 < l.length) && vowU (l.getD (l.length - 2) 0)) 111 then l ++ [101, 115]
  else if lastIs l (decide (1 < l.length) && vowU (l.getD (l.length - 2) 0)) 121 then l.take (l.length - 1) ++ [105, 101, 115]
  else l ++ [115]
def vowAt (l : List UInt8) : Bool := decide (1 < l.length) && vowU (l.getD (l.length - 2) 0)
theorem third_s {l : List UInt8} (h : sibL l = true) : thirdL l = l ++ [101, 115] := by simp [thirdL, h]
theorem third_o {l : List UInt8} {v : Bool} (hv : vowAt l = v) (h : sibL l = false) (h2 : lastIs l v 111 = true) : thirdL l = l ++ [101, 115] := by
  unfold vowAt at hv; unfold thirdL; rw [h, hv, h2]; rfl
theorem third_y {l : List UInt8} {v : Bool} (hv : vowAt l = v) (h : sibL l = false) (h2 : lastIs l v 111 = false) (h3 : lastIs l v 121 = true) : thirdL l = l.take (l.length - 1) ++ [105, 101, 115] := by
  unfold vowAt at hv; unfold thirdL; rw [h, hv, h2, h3]; rfl
theorem third_e {l : List UInt8} {v : Bool} (hv : vowAt l = v) (h : sibL l = false) (h2 : lastIs l v 111 = false) (h3 : lastIs l v 121 = false) : thirdL l = l ++ [115] := by
  unfold vowAt at hv; unfold thirdL; rw [h, hv, h2, h3]; rfl
abbrev endsV : Value := .agg #[fitV 90, num 0, str [101, 115], fitV 94, num 0, str [101, 115], fitV 95, num 1, str [105, 101, 115], fitV 96, num 0, str [115]]
theorem ends0 (W : World) : (Instr.index 83 endsV (.int .i64 0)).run Tryz.prog W = .ok (.agg #[fitV 90, num 0, str [101, 115]]) W := by kernel_rfl
theorem ends1 (W : World) : (Instr.index 83 endsV (.int .i64 1)).run Tryz.prog W = .ok (.agg #[fitV 94, num 0, str [101, 115]]) W := by kernel_rfl
theorem ends2 (W : World) : (Instr.index 83 endsV (.int .i64 2)).run Tryz.prog W = .ok (.agg #[fitV 95, num 1, str [105, 101, 115]]) W := by kernel_rfl
theorem ends3 (W : World) : (Instr.index 83 endsV (.int .i64 3)).run Tryz.prog W = .ok (.agg #[fitV 96, num 0, str [115]]) W := by kernel_rfl
theorem cut_add (l m : List UInt8) (n : Nat) : (ByteArray.mk l.toArray).extract 0 n ++ ByteArray.mk m.toArray = ByteArray.mk (l.take n ++ m).toArray := by
  rw [ByteArray.extract_mk, ByteArray.mk_append_mk]; simp
theorem ret_third {l m x : List UInt8} (n : Nat) (h : x = l.take n ++ m) : Ending.returned (.tuple #[.string ((ByteArray.mk l.toArray).extract 0 n ++ ByteArray.mk m.toArray), .int .i64 0]) = .returned (.tuple #[str x, .int .i64 0]) := by rw [cut_add, h]
theorem plain_len {l : List UInt8} (h : plainL l = true) : l.length ≤ 16 ∧ 0 < l.length := by
  simp only [plainL, Bool.and_eq_true, decide_eq_true_eq] at h; exact ⟨h.2.1, h.1⟩
set_option maxRecDepth 100000 in
theorem third_no (l : List UInt8) (w : World) (hm : l.length ≤ 140737488355328) (hp : plainL l = false) :
    Calls Tryz.prog 26 #[str l] w fun e w' => e = .returned (.tuple #[str [], .int .i64 2]) ∧ Below w.heap.size w w' := by
  have HP := Lib.hid hp; clear hp
  go_enter Tryz.func26, Tryz.ntmps26
  go_wp2_with (go_at_call 55; refine (plain_any _ _ hm).mono ?_; rintro e w1 ⟨rfl, hb1⟩; rw [HP.out])
  go_ret2
  exact ⟨rfl, hb1⟩
set_option maxRecDepth 100000 in
set_option maxHeartbeats 1600000 in
theorem third_yesV (l : List UInt8) (w : World) (hm : l.length ≤ 140737488355328) (hp : plainL l = true) (h1 : 1 < l.length) (hv : vowU (l.getD (l.length - 2) 0) = true) :
    Calls Tryz.prog 26 #[str l] w fun e w' => e = .returned (.tuple #[str (thirdL l), .int .i64 0]) ∧ Below w.heap.size w w' := by
  obtain ⟨h16, hpos⟩ := plain_len hp
  have HP := Lib.hid hp; clear hp
  have HVV : Hid (vowAt l = true) := by unfold vowAt; rw [decide_eq_true h1, hv]; rfl
  obtain ⟨b, hb⟩ : ∃ b, b = l.getD (l.length - 2) 0 := ⟨_, rfl⟩
  have hg : ∀ h, (ByteArray.mk l.toArray)[l.length - 2]'h = b := fun h => by rw [ba_get, hb]
  have hi : decide (0 ≤ vowI b) = true := by rw [vowI_iff, hb]; exact hv
  clear hv hb
  have hj0 : (0 : Int) ≤ (l.length : Int) - 2 := by omega
  go_enter Tryz.func26, Tryz.ntmps26
  go_wp2_with (first
    | (go_at_call 55; refine (plain_any _ _ hm).mono ?_; rintro e w1 ⟨rfl, hb1⟩; rw [HP.out])
    | (go_at_call 61; refine (indexVow_any b _).mono ?_; rintro e w2 ⟨rfl, rfl⟩)
    | (go_at_call 62; refine (endings_any _).mono ?_; rintro e w2 ⟨rfl, hb2⟩))
  go_loopw [23] (fun i wr => ∃ k : Nat, k ≤ 3 ∧ i = .int .i64 k ∧ Below w.heap.size w wr ∧ (1 ≤ k → sibL l = false) ∧ (2 ≤ k → lastIs l true 111 = false) ∧ (3 ≤ k → lastIs l true 121 = false)) (fun i _ => 4 - (intOf i).toNat)
  case atStart => exact ⟨0, by omega, rfl, below_then hb1 hb2, by omega, by omega, by omega⟩
  case round =>
    obtain ⟨k, hk, rfl, hb, hk1, hk2, hk3⟩ := hrel
    have HK1 := Lib.hid hk1; have HK2 := Lib.hid hk2; have HK3 := Lib.hid hk3; clear hk1 hk2 hk3
    rcases (show k = 0 ∨ k = 1 ∨ k = 2 ∨ k = 3 by omega) with rfl | rfl | rfl | rfl
    · have hix := ends0 wr
      cases hf : sibL l
      · have HF := Lib.hid hf; clear hf
        go_wp2_with (go_at_call 90; refine (ending1_any l _ _ hm).mono ?_; rintro e w3 ⟨rfl, hb3⟩; rw [HF.out])
        go_roundw
        case rel => exact ⟨1, by omega, by go_num, below_then (hb.alloc hb.size _) hb3, fun _ => by first | exact HF.out | trivial, by omega, by omega⟩
        case measure => simp [intOf]
      · have HF := Lib.hid hf; clear hf
        go_wp2_with (go_at_call 90; refine (ending1_any l _ _ hm).mono ?_; rintro e w3 ⟨rfl, hb3⟩; rw [HF.out]; obtain ⟨hc3, hf3⟩ := bcell hb3)
        have hw0 : IntKind.i64.wrap (l.length : Int) = l.length := IntWalk.i64_in _ (by omega)
        have hw1 : IntKind.i64.wrap ((l.length : Int) - 1) = (l.length : Int) - 1 := IntWalk.i64_in _ (by omega)
        have hp0 : (0 : Int) ≤ (l.length : Int) - 1 := by omega
        go_quiet (fail)
        go_wp2_with fail
        go_ret2
        exact ⟨ret_third (l.length) (by rw [third_s HF.out]; simp), below_drewN (below_then (hb.alloc hb.size _) hb3) _⟩
    · have hix := ends1 wr
      cases hf : lastIs l true 111
      · have HF := Lib.hid hf; clear hf
        go_wp2_with (go_at_call 94; refine (ending2_any l _ _ hm).mono ?_; rintro e w3 ⟨rfl, rfl⟩; rw [HF.out])
        go_roundw
        case rel => exact ⟨2, by omega, by go_num, hb.alloc hb.size _, fun _ => HK1.out (by omega), fun _ => by first | exact HF.out | trivial, by omega⟩
        case measure => simp [intOf]
      · have HF := Lib.hid hf; clear hf
        go_wp2_with (go_at_call 94; refine (ending2_any l _ _ hm).mono ?_; rintro e w3 ⟨rfl, rfl⟩; rw [HF.out])
        have hw0 : IntKind.i64.wrap (l.length : Int) = l.length := IntWalk.i64_in _ (by omega)
        have hw1 : IntKind.i64.wrap ((l.length : Int) - 1) = (l.length : Int) - 1 := IntWalk.i64_in _ (by omega)
        have hp0 : (0 : Int) ≤ (l.length : Int) - 1 := by omega
        go_quiet (fail)
        go_wp2_with fail
        go_ret2
        exact ⟨ret_third (l.length) (by rw [third_o HVV.out (HK1.out (by omega)) HF.out]; simp), below_drewN (hb.alloc hb.size _) _⟩
    · have hix := ends2 wr
      cases hf : lastIs l true 121
      · have HF := Lib.hid hf; clear hf
        go_wp2_with (go_at_call 95; refine (ending3_any l _ _ hm).mono ?_; rintro e w3 ⟨rfl, rfl⟩; rw [HF.out])
        go_roundw
        case rel => exact ⟨3, by omega, by go_num, hb.alloc hb.size _, fun _ => HK1.out (by omega), fun _ => HK2.out (by omega), fun _ => by first | exact HF.out | trivial⟩
        case measure => simp [intOf]
      · have HF := Lib.hid hf; clear hf
        go_wp2_with (go_at_call 95; refine (ending3_any l _ _ hm).mono ?_; rintro e w3 ⟨rfl, rfl⟩; rw [HF.out])
        have hw0 : IntKind.i64.wrap (l.length : Int) = l.length := IntWalk.i64_in _ (by omega)
        have hw1 : IntKind.i64.wrap ((l.length : Int) - 1) = (l.length : Int) - 1 := IntWalk.i64_in _ (by omega)
        have hp0 : (0 : Int) ≤ (l.length : Int) - 1 := by omega
        go_quiet (fail)
        go_wp2_with fail
        go_ret2
        exact ⟨ret_third (l.length - 1) (by rw [third_y HVV.out (HK1.out (by omega)) (HK2.out (by omega)) HF.out]), below_drewN (hb.alloc hb.size _) _⟩
    · have hix := ends3 wr
      go_wp2_with (go_at_call 96; refine (ending4_any l _ _).mono ?_; rintro e w3 ⟨rfl, rfl⟩)
      have hw0 : IntKind.i64.wrap (l.length : Int) = l.length := IntWalk.i64_in _ (by omega)
      have hw1 : IntKind.i64.wrap ((l.length : Int) - 1) = (l.length : Int) - 1 := IntWalk.i64_in _ (by omega)
      have hp0 : (0 : Int) ≤ (l.length : Int) - 1 := by omega
      go_quiet (fail)
      go_wp2_with fail
      go_ret2
      exact ⟨ret_third (l.length) (by rw [third_e HVV.out (HK1.out (by omega)) (HK2.out (by omega)) (HK3.out (by omega))]; simp), below_drewN (hb.alloc hb.size _) _⟩
set_option maxRecDepth 100000 in
set_option maxHeartbeats 1600000 in
theorem third_yesC (l : List UInt8) (w : World) (hm : l.length ≤ 140737488355328) (hp : plainL l = true) (h1 : 1 < l.length) (hv : vowU (l.getD (l.length - 2) 0) = false) :
    Calls Tryz.prog 26 #[str l] w fun e w' => e = .returned (.tuple #[str (thirdL l), .int .i64 0]) ∧ Below w.heap.size w w' := by
  obtain ⟨h16, hpos⟩ := plain_len hp
  have HP := Lib.hid hp; clear hp
  have HVV : Hid (vowAt l = false) := by unfold vowAt; rw [decide_eq_true h1, hv]; rfl
  obtain ⟨b, hb⟩ : ∃ b, b = l.getD (l.length - 2) 0 := ⟨_, rfl⟩
  have hg : ∀ h, (ByteArray.mk l.toArray)[l.length - 2]'h = b := fun h => by rw [ba_get, hb]
  have hi : decide (0 ≤ vowI b) = false := by rw [vowI_iff, hb]; exact hv
  clear hv hb
  have hj0 : (0 : Int) ≤ (l.length : Int) - 2 := by omega
  go_enter Tryz.func26, Tryz.ntmps26
  go_wp2_with (first
    | (go_at_call 55; refine (plain_any _ _ hm).mono ?_; rintro e w1 ⟨rfl, hb1⟩; rw [HP.out])
    | (go_at_call 61; refine (indexVow_any b _).mono ?_; rintro e w2 ⟨rfl, rfl⟩)
    | (go_at_call 62; refine (endings_any _).mono ?_; rintro e w2 ⟨rfl, hb2⟩))
  go_loopw [23] (fun i wr => ∃ k : Nat, k ≤ 3 ∧ i = .int .i64 k ∧ Below w.heap.size w wr ∧ (1 ≤ k → sibL l = false) ∧ (2 ≤ k → lastIs l false 111 = false) ∧ (3 ≤ k → lastIs l false 121 = false)) (fun i _ => 4 - (intOf i).toNat)
  case atStart => exact ⟨0, by omega, rfl, below_then hb1 hb2, by omega, by omega, by omega⟩
  case round =>
    obtain ⟨k, hk, rfl, hb, hk1, hk2, hk3⟩ := hrel
    have HK1 := Lib.hid hk1; have HK2 := Lib.hid hk2; have HK3 := Lib.hid hk3; clear hk1 hk2 hk3
    rcases (show k = 0 ∨ k = 1 ∨ k = 2 ∨ k = 3 by omega) with rfl | rfl | rfl | rfl
    · have hix := ends0 wr
      cases hf : sibL l
      · have HF := Lib.hid hf; clear hf
        go_wp2_with (go_at_call 90; refine (ending1_any l _ _ hm).mono ?_; rintro e w3 ⟨rfl, hb3⟩; rw [HF.out])
        go_roundw
        case rel => exact ⟨1, by omega, by go_num, below_then (hb.alloc hb.size _) hb3, fun _ => by first | exact HF.out | trivial, by omega, by omega⟩
        case measure => simp [intOf]
      · have HF := Lib.hid hf; clear hf
        go_wp2_with (go_at_call 90; refine (ending1_any l _ _ hm).mono ?_; rintro e w3 ⟨rfl, hb3⟩; rw [HF.out]; obtain ⟨hc3, hf3⟩ := bcell hb3)
        have hw0 : IntKind.i64.wrap (l.length : Int) = l.length := IntWalk.i64_in _ (by omega)
        have hw1 : IntKind.i64.wrap ((l.length : Int) - 1) = (l.length : Int) - 1 := IntWalk.i64_in _ (by omega)
        have hp0 : (0 : Int) ≤ (l.length : Int) - 1 := by omega
        go_quiet (fail)
        go_wp2_with fail
        go_ret2
        exact ⟨ret_third (l.length) (by rw [third_s HF.out]; simp), below_drewN (below_then (hb.alloc hb.size _) hb3) _⟩
    · have hix := ends1 wr
      cases hf : lastIs l false 111
      · have HF := Lib.hid hf; clear hf
        go_wp2_with (go_at_call 94; refine (ending2_any l _ _ hm).mono ?_; rintro e w3 ⟨rfl, rfl⟩; rw [HF.out])
        go_roundw
        case rel => exact ⟨2, by omega, by go_num, hb.alloc hb.size _, fun _ => HK1.out (by omega), fun _ => by first | exact HF.out | trivial, by omega⟩
        case measure => simp [intOf]
      · have HF := Lib.hid hf; clear hf
        go_wp2_with (go_at_call 94; refine (ending2_any l _ _ hm).mono ?_; rintro e w3 ⟨rfl, rfl⟩; rw [HF.out])
        have hw0 : IntKind.i64.wrap (l.length : Int) = l.length := IntWalk.i64_in _ (by omega)
        have hw1 : IntKind.i64.wrap ((l.length : Int) - 1) = (l.length : Int) - 1 := IntWalk.i64_in _ (by omega)
        have hp0 : (0 : Int) ≤ (l.length : Int) - 1 := by omega
        go_quiet (fail)
        go_wp2_with fail
        go_ret2
        exact ⟨ret_third (l.length) (by rw [third_o HVV.out (HK1.out (by omega)) HF.out]; simp), below_drewN (hb.alloc hb.size _) _⟩
    · have hix := ends2 wr
      cases hf : lastIs l false 121
      · have HF := Lib.hid hf; clear hf
        go_wp2_with (go_at_call 95; refine (ending3_any l _ _ hm).mono ?_; rintro e w3 ⟨rfl, rfl⟩; rw [HF.out])
        go_roundw
        case rel => exact ⟨3, by omega, by go_num, hb.alloc hb.size _, fun _ => HK1.out (by omega), fun _ => HK2.out (by omega), fun _ => by first | exact HF.out | trivial⟩
        case measure => simp [intOf]
      · have HF := Lib.hid hf; clear hf
        go_wp2_with (go_at_call 95; refine (ending3_any l _ _ hm).mono ?_; rintro e w3 ⟨rfl, rfl⟩; rw [HF.out])
        have hw0 : IntKind.i64.wrap (l.length : Int) = l.length := IntWalk.i64_in _ (by omega)
        have hw1 : IntKind.i64.wrap ((l.length : Int) - 1) = (l.length : Int) - 1 := IntWalk.i64_in _ (by omega)
        have hp0 : (0 : Int) ≤ (l.length : Int) - 1 := by omega
        go_quiet (fail)
        go_wp2_with fail
        go_ret2
        exact ⟨ret_third (l.length - 1) (by rw [third_y HVV.out (HK1.out (by omega)) (HK2.out (by omega)) HF.out]), below_drewN (hb.alloc hb.size _) _⟩
    · have hix := ends3 wr
      go_wp2_with (go_at_call 96; refine (ending4_any l _ _).mono ?_; rintro e w3 ⟨rfl, rfl⟩)
      have hw0 : IntKind.i64.wrap (l.length : Int) = l.length := IntWalk.i64_in _ (by omega)
      have hw1 : IntKind.i64.wrap ((l.length : Int) - 1) = (l.length : Int) - 1 := IntWalk.i64_in _ (by omega)
      have hp0 : (0 : Int) ≤ (l.length : Int) - 1 := by omega
      go_quiet (fail)
      go_wp2_with fail
      go_ret2
      exact ⟨ret_third (l.length) (by rw [third_e HVV.out (HK1.out (by omega)) (HK2.out (by omega)) (HK3.out (by omega))]; simp), below_drewN (hb.alloc hb.size _) _⟩
set_option maxRecDepth 100000 in
set_option maxHeartbeats 1600000 in
theorem third_yes1 (l : List UInt8) (w : World) (hm : l.length ≤ 140737488355328) (hp : plainL l = true) (h1 : l.length ≤ 1) :
    Calls Tryz.prog 26 #[str l] w fun e w' => e = .returned (.tuple #[str (thirdL l), .int .i64 0]) ∧ Below w.heap.size w w' := by
  obtain ⟨h16, hpos⟩ := plain_len hp
  have HP := Lib.hid hp; clear hp
  have HVV : Hid (vowAt l = false) := by unfold vowAt; rw [decide_eq_false (show ¬ 1 < l.length by omega)]; rfl
  go_enter Tryz.func26, Tryz.ntmps26
  go_wp2_with (first
    | (go_at_call 55; refine (plain_any _ _ hm).mono ?_; rintro e w1 ⟨rfl, hb1⟩; rw [HP.out])
    | (go_at_call 62; refine (endings_any _).mono ?_; rintro e w2 ⟨rfl, hb2⟩))
  go_loopw [23] (fun i wr => ∃ k : Nat, k ≤ 3 ∧ i = .int .i64 k ∧ Below w.heap.size w wr ∧ (1 ≤ k → sibL l = false) ∧ (2 ≤ k → lastIs l false 111 = false) ∧ (3 ≤ k → lastIs l false 121 = false)) (fun i _ => 4 - (intOf i).toNat)
  case atStart => exact ⟨0, by omega, rfl, below_then hb1 hb2, by omega, by omega, by omega⟩
  case round =>
    obtain ⟨k, hk, rfl, hb, hk1, hk2, hk3⟩ := hrel
    have HK1 := Lib.hid hk1; have HK2 := Lib.hid hk2; have HK3 := Lib.hid hk3; clear hk1 hk2 hk3
    rcases (show k = 0 ∨ k = 1 ∨ k = 2 ∨ k = 3 by omega) with rfl | rfl | rfl | rfl
    · have hix := ends0 wr
      cases hf : sibL l
      · have HF := Lib.hid hf; clear hf
        go_wp2_with (go_at_call 90; refine (ending1_any l _ _ hm).mono ?_; rintro e w3 ⟨rfl, hb3⟩; rw [HF.out])
        go_roundw
        case rel => exact ⟨1, by omega, by go_num, below_then (hb.alloc hb.size _) hb3, fun _ => by first | exact HF.out | trivial, by omega, by omega⟩
        case measure => simp [intOf]
      · have HF := Lib.hid hf; clear hf
        go_wp2_with (go_at_call 90; refine (ending1_any l _ _ hm).mono ?_; rintro e w3 ⟨rfl, hb3⟩; rw [HF.out]; obtain ⟨hc3, hf3⟩ := bcell hb3)
        have hw0 : IntKind.i64.wrap (l.length : Int) = l.length := IntWalk.i64_in _ (by omega)
        have hw1 : IntKind.i64.wrap ((l.length : Int) - 1) = (l.length : Int) - 1 := IntWalk.i64_in _ (by omega)
        have hp0 : (0 : Int) ≤ (l.length : Int) - 1 := by omega
        go_quiet (fail)
        go_wp2_with fail
        go_ret2
        exact ⟨ret_third (l.length) (by rw [third_s HF.out]; simp), below_drewN (below_then (hb.alloc hb.size _) hb3) _⟩
    · have hix := ends1 wr
      cases hf : lastIs l false 111
      · have HF := Lib.hid hf; clear hf
        go_wp2_with (go_at_call 94; refine (ending2_any l _ _ hm).mono ?_; rintro e w3 ⟨rfl, rfl⟩; rw [HF.out])
        go_roundw
        case rel => exact ⟨2, by omega, by go_num, hb.alloc hb.size _, fun _ => HK1.out (by omega), fun _ => by first | exact HF.out | trivial, by omega⟩
        case measure => simp [intOf]
      · exact absurd hf (by simp [lastIs]; omega)
    · have hix := ends2 wr
      cases hf : lastIs l false 121
      · have HF := Lib.hid hf; clear hf
        go_wp2_with (go_at_call 95; refine (ending3_any l _ _ hm).mono ?_; rintro e w3 ⟨rfl, rfl⟩; rw [HF.out])
        go_roundw
        case rel => exact ⟨3, by omega, by go_num, hb.alloc hb.size _, fun _ => HK1.out (by omega), fun _ => HK2.out (by omega), fun _ => by first | exact HF.out | trivial⟩
        case measure => simp [intOf]
      · exact absurd hf (by simp [lastIs]; omega)
    · have hix := ends3 wr
      go_wp2_with (go_at_call 96; refine (ending4_any l _ _).mono ?_; rintro e w3 ⟨rfl, rfl⟩)
      have hw0 : IntKind.i64.wrap (l.length : Int) = l.length := IntWalk.i64_in _ (by omega)
      have hw1 : IntKind.i64.wrap ((l.length : Int) - 1) = (l.length : Int) - 1 := IntWalk.i64_in _ (by omega)
      have hp0 : (0 : Int) ≤ (l.length : Int) - 1 := by omega
      go_quiet (fail)
      go_wp2_with fail
      go_ret2
      exact ⟨ret_third (l.length) (by rw [third_e HVV.out (HK1.out (by omega)) (HK2.out (by omega)) (HK3.out (by omega))]; simp), below_drewN (hb.alloc hb.size _) _⟩
theorem third_ok (l : List UInt8) (w : World) (hm : l.length ≤ 140737488355328) (hp : plainL l = true) :
    Calls Tryz.prog 26 #[str l] w fun e w' => e = .returned (.tuple #[str (thirdL l), .int .i64 0]) ∧ Below w.heap.size w w' := by
  rcases Nat.lt_or_ge 1 l.length with h1 | h1
  · cases hv : vowU (l.getD (l.length - 2) 0)
    · exact third_yesC l w hm hp h1 hv
    · exact third_yesV l w hm hp h1 hv
  · exact third_yes1 l w hm hp h1
def thirdR (l : List UInt8) : List UInt8 × Int := if plainL l then (thirdL l, 0) else ([], 2)
theorem third_any (l : List UInt8) (w : World) (hm : l.length ≤ 140737488355328) :
    Calls Tryz.prog 26 #[str l] w fun e w' => e = .returned (.tuple #[str (thirdR l).1, .int .i64 (thirdR l).2]) ∧ Below w.heap.size w w' := by
  unfold thirdR
  cases hp : plainL l
  · exact third_no l w hm hp
  · exact third_ok l w hm hp
def artL : List UInt8 → List UInt8
  | [] => [97]
  | b :: _ => if vowU b then [97, 110] else [97]
theorem article_any (l : List UInt8) (w : World) : Calls Tryz.prog 31 #[str l] w fun e w' => e = .returned (str (artL l)) ∧ w = w' := by
  cases l with
  | nil =>
    go_enter Tryz.func31, Tryz.ntmps31
    go_wp2_with fail
    go_ret
    exact ⟨rfl, rfl⟩
  | cons b r =>
    have hg : ∀ h, (ByteArray.mk (b :: r).toArray)[0]'h = b := fun h => rfl
    cases hv : vowU b
    all_goals
      have hi := (vowI_iff b).trans hv
      have HV : Hid (artL (b :: r) = if vowU b then [97, 110] else [97]) := rfl
      rw [hv] at HV
      clear hv
      go_enter Tryz.func31, Tryz.ntmps31
      go_wp2_with (go_at_call 61; refine (indexVow_any b _).mono ?_; rintro e w2 ⟨rfl, rfl⟩)
      go_ret
      exact ⟨by rw [HV.out]; rfl, rfl⟩
end Go.Proofs.YtbbgieopcmjoeaaGreatDoor
