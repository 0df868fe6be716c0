/- package lyceumref33: third forms; the small letters of a text; a copy of texts. -/
import Derived.Test.YtbbgieopcmjoeaaGreatDoorRefA
import Derived.Test.YtbbgieopcmjoeaaGreatDoorLawThird
import Derived.Test.YtbbgieopcmjoeaaGreatDoorLook
namespace Go.Proofs.YtbbgieopcmjoeaaGreatDoor
open Go.RowKit
def rthI (X Y : Int) : Nat :=
  if Y = 115 ∨ Y = 120 ∨ Y = 122 then 0 else if Y = 104 ∧ (X = 99 ∨ X = 115) then 0 else if Y = 111 ∧ vowB X = false then 0 else if Y = 121 ∧ vowB X = false then 1 else 2
def rthL (l : List UInt8) : Nat → List UInt8
  | 0 => l ++ [101, 115]
  | 1 => l.take (l.length - 1) ++ [105, 101, 115]
  | _ => l ++ [115]
theorem rth_two (x y : UInt8) : (if sib2 x y then 0 else if !vowU x && y == 111 then 0 else if !vowU x && y == 121 then 1 else 2) = rthI x.toNat y.toNat := by
  have e : ∀ n : Nat, n < 256 → ∀ b : UInt8, (b == UInt8.ofNat n) = decide ((b.toNat : Int) = (n : Int)) := fun n hn b => by
    rw [← u8_beqN b n hn, Bool.eq_iff_iff, beq_iff_eq, decide_eq_true_eq]
    simp [Nat.mod_eq_of_lt hn]
  have e99 := e 99 (by omega) x
  have e115 := e 115 (by omega) y
  have e115x := e 115 (by omega) x
  have e120 := e 120 (by omega) y
  have e122 := e 122 (by omega) y
  have e104 := e 104 (by omega) y
  have e111 := e 111 (by omega) y
  have e121 := e 121 (by omega) y
  unfold sib2 rthI
  rw [← vowB_U]
  simp only [show (115 : UInt8) = UInt8.ofNat 115 from rfl, show (120 : UInt8) = UInt8.ofNat 120 from rfl, show (122 : UInt8) = UInt8.ofNat 122 from rfl, show (104 : UInt8) = UInt8.ofNat 104 from rfl, show (99 : UInt8) = UInt8.ofNat 99 from rfl, show (111 : UInt8) = UInt8.ofNat 111 from rfl, show (121 : UInt8) = UInt8.ofNat 121 from rfl, e115, e115x, e120, e122, e104, e99, e111, e121]
  generalize (y.toNat : Int) = Y
  generalize (x.toNat : Int) = X
  cases vowB X
  all_goals
    simp only [Bool.or_eq_true, Bool.and_eq_true, decide_eq_true_eq, Bool.not_true, Bool.not_false]
    repeat' split
    all_goals first | rfl | omega | simp_all
theorem rth_eq (l : List UInt8) (h : 2 ≤ l.length) : thirdL l = rthL l (rthI (l.getD (l.length - 2) 0).toNat (l.getD (l.length - 1) 0).toNat) := by
  obtain ⟨a, x, y, rfl⟩ : ∃ a x y, l = a ++ [x, y] := by
    refine ⟨l.take (l.length - 2), l[l.length - 2], l[l.length - 1], ?_⟩
    conv => lhs; rw [← List.take_append_drop (l.length - 2) l]
    congr 1
    rw [List.drop_eq_getElem_cons (by omega), List.drop_eq_getElem_cons (by omega)]
    congr 2
    · congr 1; omega
    · rw [List.drop_eq_nil_of_le (by omega)]
  obtain ⟨h1, h2, h3⟩ := two_at a x y
  rw [h1, h2, ← rth_two, thirdL_two]
  unfold end2
  have e1 : (a ++ [x, y]).take ((a ++ [x, y]).length - 1) = a ++ [x] := by
    rw [h3, show a.length + 2 - 1 = a.length + 1 from by omega, List.take_append, List.take_of_length_le (by omega)]; simp
  repeat' split
  all_goals simp only [rthL, e1]
  all_goals try simp
theorem rth_one (y : UInt8) : thirdL [y] = rthL [y] (if (y.toNat : Int) = 115 ∨ (y.toNat : Int) = 120 ∨ (y.toNat : Int) = 122 then 0 else 2) := by
  have h : ∀ n : Fin 256, thirdL [UInt8.ofNat n.val] = rthL [UInt8.ofNat n.val] (if ((UInt8.ofNat n.val).toNat : Int) = 115 ∨ ((UInt8.ofNat n.val).toNat : Int) = 120 ∨ ((UInt8.ofNat n.val).toNat : Int) = 122 then 0 else 2) := by decide +kernel
  have := h ⟨y.toNat, y.toNat_lt⟩
  simp only [UInt8.ofNat_toNat] at this
  exact this
set_option maxRecDepth 100000 in
set_option maxHeartbeats 1600000 in
theorem rthirdOf_two (l : List UInt8) (w : World) (h1 : 1 < l.length) (hm : l.length ≤ 16) : Calls Tryz.prog 52 #[str l] w fun e w' => e = .returned (str (thirdL l)) ∧ w = w' := by
  have HE := Lib.hid (rth_eq l h1)
  obtain ⟨X, hX⟩ : ∃ X : Int, ((l.getD (l.length - 2) 0).toNat : Int) = X := ⟨_, rfl⟩
  obtain ⟨Y, hY⟩ : ∃ Y : Int, ((l.getD (l.length - 1) 0).toNat : Int) = Y := ⟨_, rfl⟩
  rw [hX, hY] at HE
  have gx : ∀ h, (((ByteArray.mk l.toArray)[l.length - 2]'h).toNat : Int) = X := fun h => by rw [ba_get]; exact hX
  have gy : ∀ h, (((ByteArray.mk l.toArray)[l.length - 1]'h).toNat : Int) = Y := fun h => by rw [ba_get]; exact hY
  clear hX hY
  have hj0 : (0 : Int) ≤ (l.length : Int) - 1 := by omega
  have hj1 : (l.length : Int) - 1 < (l.length : Int) := by omega
  have hj2 : (0 : Int) ≤ (l.length : Int) - 2 := by omega
  have hj3 : (l.length : Int) - 2 < (l.length : Int) := by omega
  cases hv : vowB X
  all_goals
    have HV := Lib.hid hv; clear hv
    go_enter Tryz.func52, Tryz.ntmps52
    go_wp2_with (go_at_call 71; refine (rvowel_any _ _).mono ?_; rintro e w' ⟨rfl, rfl⟩; rw [HV.out])
    all_goals go_ret
    all_goals exact ⟨by rw [HE.out]; simp_all [rthI, rthL, HV.out]; (first | rw [cut_add] | simp [ByteArray.mk_append_mk]), rfl⟩
set_option maxRecDepth 100000 in
theorem rthirdOf_one (y : UInt8) (w : World) : Calls Tryz.prog 52 #[str [y]] w fun e w' => e = .returned (str (thirdL [y])) ∧ w = w' := by
  have HE := Lib.hid (rth_one y)
  obtain ⟨Y, hY⟩ : ∃ Y : Int, (y.toNat : Int) = Y := ⟨_, rfl⟩
  rw [hY] at HE
  have gy : ∀ h, (((ByteArray.mk [y].toArray)[0]'h).toNat : Int) = Y := fun h => hY
  clear hY
  go_enter Tryz.func52, Tryz.ntmps52
  go_wp2_with fail
  all_goals go_ret
  all_goals exact ⟨by rw [HE.out]; simp_all [rthL]; (first | rfl | simp [ByteArray.mk_append_mk]), rfl⟩
theorem rthirdOf_any (l : List UInt8) (w : World) (h0 : 0 < l.length) (hm : l.length ≤ 16) : Calls Tryz.prog 52 #[str l] w fun e w' => e = .returned (str (thirdL l)) ∧ w = w' := by
  match l, h0 with
  | [y], _ => exact rthirdOf_one y w
  | x :: y :: r, _ => exact rthirdOf_two _ w (by simp) hm
theorem rthird_any (l : List UInt8) (w : World) (hm : l.length ≤ 140737488355328) : Calls Tryz.prog 32 #[str l] w fun e w' => e = .returned (.tuple #[str (thirdR l).1, .int .i64 (thirdR l).2]) ∧ w = w' := by
  cases hp : plainL l
  · have HX : Hid (thirdR l = ([], 2)) := by unfold thirdR; rw [hp]; rfl
    have HP := Lib.hid hp; clear hp
    rw [HX.out]
    go_enter Tryz.func32, Tryz.ntmps32
    go_wp2_with (go_at_call 59; refine (rplain_any _ _ hm).mono ?_; rintro e w' ⟨rfl, rfl⟩; rw [HP.out])
    go_ret2
    exact ⟨rfl, rfl⟩
  · have HX : Hid (thirdR l = (thirdL l, 0)) := by unfold thirdR; rw [hp]; rfl
    obtain ⟨h1, h2⟩ := plain_len hp
    have HP := Lib.hid hp; clear hp
    rw [HX.out]
    go_enter Tryz.func32, Tryz.ntmps32
    go_wp2_with (first | (go_at_call 59; refine (rplain_any _ _ hm).mono ?_; rintro e w' ⟨rfl, rfl⟩; rw [HP.out]) | (go_at_call 52; refine (rthirdOf_any _ _ h2 h1).mono ?_; rintro e w' ⟨rfl, rfl⟩))
    go_ret2
    exact ⟨rfl, rfl⟩
theorem low_snoc (l : List UInt8) (k : Nat) (h : k < l.length) : lowL (l.take (k + 1)) = lowL (l.take k) ++ [lowU (l.getD k 0)] := by
  unfold lowL
  rw [List.take_succ_eq_append_getElem h, List.map_append]
  simp [h]
theorem conv_one (W : World) (b : UInt8) : (convert 69 9 (.slice (some ⟨W.heap.size, 0, none⟩) 1 1)).run Tryz.prog (W.alloc (.cells #[.int .u8 b.toNat] 5)) = .ok (.string ⟨[b].toArray⟩) (W.alloc (.cells #[.int .u8 b.toNat] 5)) :=
  run_convert_bytes_back (W.alloc (.cells #[.int .u8 b.toNat] 5)) _ _ 5 ⟨W.heap.size, 0, none⟩ 1 [b] Tryz.underlying69 Tryz.underlying5 Tryz.underlying9 (fun j hj => by
    have : j = 0 := by simpa using hj
    subst this
    rw [show (⟨W.heap.size, 0, none⟩ : Addr).add 0 = ⟨W.heap.size, 0, none⟩ from rfl, World.cell?_alloc_mark]
    rfl)
theorem conv_low (W : World) (b : UInt8) (h : capB b.toNat = true) : (convert 69 9 (.slice (some ⟨W.heap.size, 0, none⟩) 1 1)).run Tryz.prog (W.alloc (.cells #[.int .u8 ((b.toNat + 32 : Int) % 256)] 5)) = .ok (.string ⟨[lowU b].toArray⟩) (W.alloc (.cells #[.int .u8 ((b.toNat + 32 : Int) % 256)] 5)) := by
  have e : ((b.toNat + 32 : Int) % 256) = ((lowU b).toNat : Int) := by
    simp [lowU, h, UInt8.toNat_add]
  rw [e]
  exact conv_one W (lowU b)
theorem conv_nlow (W : World) (b : UInt8) (h : capB b.toNat = false) : (convert 69 9 (.slice (some ⟨W.heap.size, 0, none⟩) 1 1)).run Tryz.prog (W.alloc (.cells #[.int .u8 (b.toNat : Int)] 5)) = .ok (.string ⟨[lowU b].toArray⟩) (W.alloc (.cells #[.int .u8 (b.toNat : Int)] 5)) := by
  have e : b = lowU b := by simp [lowU, h]
  rw [← e]
  exact conv_one W b
theorem low_len (l : List UInt8) (k : Nat) : (lowL (l.take k)).length ≤ k := by simp [lowL]; omega
set_option maxRecDepth 100000 in
set_option maxHeartbeats 400000 in
theorem rlower_any (l : List UInt8) (w : World) (hs : l.length ≤ 140737488355328) :
    Calls Tryz.prog 69 #[str l] w fun e w' => e = .returned (str (lowL l)) ∧ Below w.heap.size w w' := by
  go_enter Tryz.func69, Tryz.ntmps69
  go_wp2_with fail
  go_loopw [3, 4] (fun o i wr => ∃ k : Nat, k ≤ l.length ∧ i = .int .i64 k ∧ o = str (lowL (l.take k)) ∧ Below w.heap.size w wr) (fun _ i _ => l.length - (intOf i).toNat)
  case atStart => exact ⟨0, Nat.zero_le _, rfl, rfl, Below.refl _ _⟩
  case round =>
    obtain ⟨k, hk, rfl, rfl, hb⟩ := hrel
    by_cases hlt : k < l.length
    · have hl := low_len l k
      have HB := Lib.hid (low_snoc l k hlt)
      obtain ⟨b, hb0⟩ : ∃ b, l.getD k 0 = b := ⟨_, rfl⟩
      have hg : ∀ h, (ByteArray.mk l.toArray)[k]'h = b := fun h => by rw [ba_get, hb0]
      rw [hb0] at HB
      clear hb0
      cases hc : capB b.toNat
      · have hcv := conv_nlow wr b hc
        have HC := Lib.hid hc; clear hc
        go_wp2_with (go_at_call 86; refine (rcapital_any _ _).mono ?_; rintro e w' ⟨rfl, rfl⟩; rw [HC.out])
        go_roundw
        case rel => exact ⟨k + 1, by omega, by go_num, by rw [HB.out]; simp [ByteArray.mk_append_mk], hb.alloc hb.size _⟩
        case measure => simp [intOf]; omega
      · have hcv := conv_low wr b hc
        have HC := Lib.hid hc; clear hc
        go_wp2_with (go_at_call 86; refine (rcapital_any _ _).mono ?_; rintro e w' ⟨rfl, rfl⟩; rw [HC.out])
        go_roundw
        case rel => exact ⟨k + 1, by omega, by go_num, by rw [HB.out]; simp [ByteArray.mk_append_mk], hb.alloc hb.size _⟩
        case measure => simp [intOf]; omega
    · go_wp2_with fail
      go_ret
      exact ⟨ret_string (by rw [List.take_of_length_le (by omega)]), hb⟩
end Go.Proofs.YtbbgieopcmjoeaaGreatDoor
