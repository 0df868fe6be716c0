/- package lyceumref33: clash, Valid. -/
import Derived.Test.YtbbgieopcmjoeaaGreatDoorRefF
import Derived.Test.YtbbgieopcmjoeaaGreatDoorTellsP
namespace Go.Proofs.YtbbgieopcmjoeaaGreatDoor
open Go.RowKit
theorem u8_bne5 (b : UInt8) : ((b.toNat : Int) != 5) = !(b == 5) := u8_bne b 5 (by omega)
theorem clash_diff {o e : Ent} (h : (o.2.2 == e.2.2) = false) : clashL o e = false := by unfold clashL; rw [h]; rfl
theorem clash_name {o e : Ent} (h : (o.2.1 == 3) = true ∨ (e.2.1 == 3) = true) : clashL o e = false := by
  unfold clashL
  rcases h with h | h <;> rw [h] <;> simp
theorem clash_val {o e : Ent} (h : (o.2.2 == e.2.2) = true) (h1 : (o.2.1 == 3) = false) (h2 : (e.2.1 == 3) = false) : clashL o e = ((o.2.1 == 5) != (e.2.1 == 5)) := by
  unfold clashL; rw [h, h1, h2]; rfl
theorem any_hit {l : List Ent} {e o : Ent} {k : Nat} (hk : k < l.length) (ho : l[k] = o) (h : clashL o e = true) : (l.any fun o => clashL o e) = true := by
  rw [List.any_eq_true]
  exact ⟨l[k], List.getElem_mem hk, by rw [ho]; exact h⟩
theorem any_none {l : List Ent} {e : Ent} (h : NoneTo (fun i => clashL (l.getD i dE) e) l.length) : (l.any fun o => clashL o e) = false := by
  rw [List.any_eq_false]
  intro o ho
  obtain ⟨i, hi, rfl⟩ := List.getElem_of_mem ho
  have := h i hi
  have e1 : l.getD i dE = l[i] := by simp [hi]
  simp only [e1] at this
  simp [this]
set_option maxRecDepth 100000 in
set_option maxHeartbeats 1600000 in
theorem rclash_any (l : List Ent) (e : Ent) (A : Option Addr) (c : Nat) (w : World) (hl : l.length ≤ 1048576) (hr : Reads w w.heap.size 3 A l.length (flat l)) :
    Calls Tryz.prog 51 #[.slice A l.length c, entV e] w fun e' w' => e' = .returned (.bool (l.any fun o => clashL o e)) ∧ Below w.heap.size w w' := by
  have HR := Lib.hid hr; clear hr
  obtain ⟨ex, ec, esy⟩ := e
  have hbox : Hid (∀ W : World, W = w.alloc (.cells #[str ex, byteV ec, str esy] 46) → Blk W w.heap.size 46 #[str ex, byteV ec, str esy] ∧ Below w.heap.size w W) := fun W h => by subst h; exact ⟨Blk.new _ _ _, (Below.refl _ _).alloc (Nat.le_refl _) _⟩
  have e3 := u8_beq3 ec
  have e5 := u8_beq5 ec
  have ne5 := u8_bne5 ec
  go_enter Tryz.func51, Tryz.ntmps51
  go_wp2_with fail
  obtain ⟨W1, hW1⟩ : ∃ W1 : World, W1 = w.alloc (.cells #[str ex, byteV ec, str esy] 46) := ⟨_, rfl⟩
  obtain ⟨hbk, hb1⟩ := hbox.out W1 hW1
  rw [← hW1]
  clear hW1
  go_loopw [5] (fun i wr => ∃ k : Nat, k ≤ l.length ∧ i = .int .i64 k ∧ Below W1.heap.size W1 wr ∧ NoneTo (fun i => clashL (l.getD i dE) (ex, ec, esy)) k) (fun i _ => l.length - (intOf i).toNat)
  case atStart => exact ⟨0, Nat.zero_le _, rfl, Below.refl _ _, NoneTo.zero _⟩
  case round =>
    obtain ⟨k, hk, rfl, hb, hno⟩ := hrel
    by_cases hlt : k < l.length
    · obtain ⟨b, off, rfl, hB, h0, h1, h2⟩ := ((HR.out).below (hb1.trans (hb.mono hb1.size))).ent hlt
      obtain ⟨k0, k1, k2⟩ : wr.cell? ⟨w.heap.size, 0, none⟩ = some (str ex) ∧ wr.cell? ⟨w.heap.size, 1, none⟩ = some (byteV ec) ∧ wr.cell? ⟨w.heap.size, 2, none⟩ = some (str esy) := ⟨(hbk.later hb).cell 0, (hbk.later hb).cell 1, (hbk.later hb).cell 2⟩
      have hE : (fun i => clashL (l.getD i dE) (ex, ec, esy)) k = clashL l[k] (ex, ec, esy) := by simp [hlt]
      have HH := Lib.hid (fun (h : clashL l[k] (ex, ec, esy) = true) => any_hit hlt rfl h)
      generalize l[k] = o at h0 h1 h2 hE HH
      have HE := Lib.hid hE; clear hE
      have HNO := Lib.hid hno; clear hno
      obtain ⟨ox, oc, osy⟩ := o
      have o3 := u8_beq3 oc
      have o5 := u8_beq5 oc
      have no5 := u8_bne5 oc
      cases hs : (osy == esy)
      · have HC := Lib.hid (clash_diff (o := (ox, oc, osy)) (e := (ex, ec, esy)) hs)
        go_wp2_with fail
        go_quiet (fail)
        go_wp2_with fail
        go_roundw
        case rel => exact ⟨k + 1, by omega, by go_num, below_drewN hb _, HNO.out.succ (by rw [HE.out]; exact HC.out)⟩
        case measure => simp [intOf]; omega
      · cases h3 : (oc == 3)
        · cases k3 : (ec == 3)
          · have HC := Lib.hid (clash_val (o := (ox, oc, osy)) (e := (ex, ec, esy)) hs h3 k3)
            cases h5 : (oc == 5) <;> cases k5 : (ec == 5)
            all_goals
              have HQ := HC.out
              simp only [h5, k5] at HQ
              have HQ := Lib.hid HQ
              rw [h3] at o3
              rw [k3] at e3
              rw [h5] at o5 no5
              rw [k5] at e5 ne5
              clear h3 k3 h5 k5
              go_wp2_with fail
              go_quiet (fail)
              go_wp2_with fail
              first
              | go_roundw
                case rel => exact ⟨k + 1, by omega, by go_num, below_drewN hb _, HNO.out.succ (by rw [HE.out]; exact HQ.out)⟩
                case measure => simp [intOf]; omega
              | go_ret
                exact ⟨ret_bool (HH.out HQ.out).symm, hb1.trans ((below_drewN hb _).mono hb1.size)⟩
          · have HC := Lib.hid (clash_name (o := (ox, oc, osy)) (e := (ex, ec, esy)) (.inr k3))
            rw [h3] at o3
            rw [k3] at e3
            clear h3 k3
            go_wp2_with fail
            go_quiet (fail)
            go_wp2_with fail
            go_roundw
            case rel => exact ⟨k + 1, by omega, by go_num, below_drewN hb _, HNO.out.succ (by rw [HE.out]; exact HC.out)⟩
            case measure => simp [intOf]; omega
        · have HC := Lib.hid (clash_name (o := (ox, oc, osy)) (e := (ex, ec, esy)) (.inl h3))
          rw [h3] at o3
          clear h3
          go_wp2_with fail
          go_quiet (fail)
          go_wp2_with fail
          go_roundw
          case rel => exact ⟨k + 1, by omega, by go_num, below_drewN hb _, HNO.out.succ (by rw [HE.out]; exact HC.out)⟩
          case measure => simp [intOf]; omega
    · obtain rfl : k = l.length := by omega
      have HNO := Lib.hid (any_none hno); clear hno
      go_wp2_with fail
      go_ret
      exact ⟨ret_bool HNO.out.symm, hb1.trans (hb.mono hb1.size)⟩
end Go.Proofs.YtbbgieopcmjoeaaGreatDoor
