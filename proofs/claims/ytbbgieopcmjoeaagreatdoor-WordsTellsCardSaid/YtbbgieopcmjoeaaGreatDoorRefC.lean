/- package lyceumref33: ahead. -/
import Derived.Test.YtbbgieopcmjoeaaGreatDoorRefA
import Derived.Test.YtbbgieopcmjoeaaGreatDoorOrder
namespace Go.Proofs.YtbbgieopcmjoeaaGreatDoor
open Go.RowKit
theorem cmpB_selfR : ∀ a : List UInt8, Lib.compareBytes a a = 0
  | [] => rfl
  | x :: a => by
    have := cmpB_selfR a
    simp [Lib.compareBytes, this]
theorem less_cmp : ∀ a b : List UInt8, Op.bytesLess a b = decide (Lib.compareBytes a b < 0)
  | [], [] => by simp [Op.bytesLess, Lib.compareBytes]
  | [], b :: r => by simp [Op.bytesLess, Lib.compareBytes]
  | a :: l, [] => by simp [Op.bytesLess, Lib.compareBytes]
  | a :: l, b :: r => by
    have ih := less_cmp l r
    simp only [Op.bytesLess, Lib.compareBytes, ih]
    rcases Nat.lt_trichotomy a.toNat b.toNat with h | h | h
    · have h1 : a < b := h
      simp [h1]
    · obtain rfl : a = b := UInt8.toNat_inj.1 h
      simp
    · have h1 : b < a := h
      have h2 : ¬ a < b := fun h' => Nat.lt_asymm h h'
      have h3 : ¬ a = b := fun h' => by subst h'; exact absurd h (Nat.lt_irrefl _)
      simp [h1, h2, h3]
set_option maxRecDepth 100000 in
theorem rahead_any (a b : Ent) (w : World) : Calls Tryz.prog 50 #[entV a, entV b] w fun e w' => e = .returned (.bool (decide (cmpL a b < 0))) ∧ Below w.heap.size w w' := by
  obtain ⟨ax, ac, ay⟩ := a
  obtain ⟨bx, bc, bY⟩ := b
  have hbox : Hid (∀ W : World, W = (w.alloc (.cells #[str ax, byteV ac, str ay] 46)).alloc (.cells #[str bx, byteV bc, str bY] 46) → Blk W w.heap.size 46 #[str ax, byteV ac, str ay] ∧ Blk W (w.heap.size + 1) 46 #[str bx, byteV bc, str bY] ∧ Below w.heap.size w W) := fun W h => by
    subst h
    exact ⟨(Blk.new _ _ _).alloc _, by have := Blk.new (w.alloc (.cells #[str ax, byteV ac, str ay] 46)) 46 #[str bx, byteV bc, str bY]; simpa using this, ((Below.refl _ _).alloc (Nat.le_refl _) _).alloc (by simp) _⟩
  go_enter Tryz.func50, Tryz.ntmps50
  go_wp2_with fail
  all_goals go_ret
  · rename_i h
    refine ⟨ret_bool ?_, (hbox.out _ rfl).2.2⟩
    have hne : ax ≠ bx := fun e => by subst e; rw [less_cmp] at h; simp [cmpB_selfR] at h
    unfold cmpL
    rw [if_neg (by simpa using hne), ← less_cmp, h]
  · rename_i h1 h2
    subst h2
    refine ⟨ret_bool ?_, (hbox.out _ rfl).2.2⟩
    unfold cmpL
    rw [if_pos (by simp)]
    exact decide_eq_decide.2 (by simp only; omega)
  · rename_i h1 h2
    refine ⟨ret_bool ?_, (hbox.out _ rfl).2.2⟩
    unfold cmpL
    rw [if_neg (by simpa using h2), ← less_cmp]
    simpa using h1
theorem rin_any (b lo hi : Int) (w : World) : Calls Tryz.prog 88 #[.int .u8 b, .int .u8 lo, .int .u8 hi] w fun e w' => e = .returned (.bool (decide (lo ≤ b) && decide (b ≤ hi))) ∧ w = w' := by
  go_enter Tryz.func88, Tryz.ntmps88
  go_wp2_with fail
  all_goals (try go_ret)
  all_goals exact ⟨by simp_all <;> omega, rfl⟩
set_option maxRecDepth 100000 in
theorem rproper_any (l : List UInt8) (w : World) (hm : l.length ≤ 140737488355328) : Calls Tryz.prog 57 #[str l] w fun e w' => e = .returned (.bool (properL l)) ∧ w = w' := by
  rcases Nat.eq_zero_or_pos l.length with h0 | h0
  · obtain rfl : l = [] := List.length_eq_zero_iff.1 h0
    go_enter Tryz.func57, Tryz.ntmps57
    go_wp2_with fail
    go_loop [3] (fun i => i = .int .i64 1) (fun i => 0)
    case atStart => rfl
    case round =>
      obtain rfl := hrel
      go_wp2_with fail
      go_ret
      exact ⟨rfl, rfl⟩
  · obtain ⟨b, r, rfl⟩ : ∃ b r, l = b :: r := by
      cases l with
      | nil => simp at h0
      | cons b r => exact ⟨b, r, rfl⟩
    have hlen : (b :: r).length = r.length + 1 := rfl
    have HLEN := Lib.hid hlen
    have hcb : (b :: r).getD 0 0 = b := rfl
    have hrg : Hid (∀ k, (b :: r).getD (k + 1) 0 = r.getD k 0) := fun k => rfl
    have HC : Hid (∀ h, (ByteArray.mk (b :: r).toArray)[0]'h = b) := fun h => rfl
    have HP : Hid (properL (b :: r) = (decide ((b :: r).length ≤ 16) && (capU b && r.all smallU))) := rfl
    clear hcb
    generalize b :: r = l at *
    go_enter Tryz.func57, Tryz.ntmps57
    go_wp2_with fail
    go_loop [3] (fun i => ∃ k : Nat, k ≤ r.length ∧ i = .int .i64 (k + 1 : Nat) ∧ NoneTo (atB (fun b => !smallU b) r) k) (fun i => l.length - (intOf i).toNat)
    case atStart => exact ⟨0, Nat.zero_le _, rfl, NoneTo.zero _⟩
    case round =>
      obtain ⟨k, hk, rfl, hno⟩ := hrel
      by_cases hlt : k < r.length
      · have hx : atB (fun b => !smallU b) r k = !smallU r[k] := by simp [atB, hlt]
        have hg : r[k] = l.getD (k + 1) 0 := by rw [hrg.out]; simp [hlt]
        rw [hg] at hx
        clear hg
        cases hs : smallB (l.getD (k + 1) 0).toNat
        · have HX : Hid (atB (fun b => !smallU b) r k = true) := by rw [hx]; unfold smallU; rw [hs]; rfl
          have HS := Lib.hid hs; clear hs hx
          go_wp2_with (go_at_call 85; refine (rsmall_any _ _).mono ?_; rintro e w' ⟨rfl, rfl⟩; rw [ba_get, HS.out])
          go_ret
          exact ⟨ret_bool (by
            have : r.all smallU = false := by
              rw [← any_not, ← any_atB, Bool.not_eq_false', anyIdx_iff]
              exact ⟨k, hlt, HX.out⟩
            rw [HP.out, this]; simp), rfl⟩
        · have HX : Hid (atB (fun b => !smallU b) r k = false) := by rw [hx]; unfold smallU; rw [hs]; rfl
          have HS := Lib.hid hs; clear hs hx
          go_wp2_with (go_at_call 85; refine (rsmall_any _ _).mono ?_; rintro e w' ⟨rfl, rfl⟩; rw [ba_get, HS.out])
          go_round
          case rel => exact ⟨k + 1, by omega, by go_num, hno.succ HX.out⟩
          case measure => simp [intOf]; omega
      · obtain rfl : k = r.length := by omega
        have HA : Hid (r.all smallU = true) := by
          rw [← any_not, ← any_atB]
          have : anyIdx (atB (fun b => !smallU b) r) r.length = false := by
            rw [Bool.eq_false_iff, ne_eq, anyIdx_iff]
            rintro ⟨i, hi, hp⟩
            rw [hno i hi] at hp; cases hp
          rw [this]; rfl
        clear hno
        have h1 : decide ((1 : Int) ≤ (l.length : Int)) = true := by rw [decide_eq_true_iff]; omega
        have h0' : (0 : Int) < (l.length : Int) := by omega
        have hq : (((r.length : Int) + 1 < (l.length : Int))) = False := by rw [eq_iff_iff]; constructor <;> intro h <;> first | omega | exact h.elim
        clear hlen
        cases h2 : decide ((l.length : Int) ≤ 16)
        all_goals
          have h2' : decide (l.length ≤ 16) = _ := (decide_eq_decide.2 (by omega : l.length ≤ 16 ↔ (l.length : Int) ≤ 16)).trans h2
          have H2 := Lib.hid h2'; clear h2'
          go_wp2_with (go_at_call 86; refine (rcapital_any _ _).mono ?_; rintro e w' ⟨rfl, rfl⟩)
          go_ret
          exact ⟨ret_bool (by rw [HP.out, HA.out, H2.out]; first | rfl | (rw [HC.out]; simp [capU])), rfl⟩
theorem nl_in (x : Int) : ((decide (48 ≤ x) && decide (x ≤ 57)) || ((decide (65 ≤ x) && decide (x ≤ 90)) || (decide (97 ≤ x) && decide (x ≤ 122)))) = nlB x := by
  unfold nlB smallB capB digB
  rw [Bool.eq_iff_iff]
  simp only [Bool.or_eq_true, Bool.and_eq_true, decide_eq_true_eq]
  omega
end Go.Proofs.YtbbgieopcmjoeaaGreatDoor
