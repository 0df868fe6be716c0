/- package lyceumkit: SameTexts. -/
import Derived.Test.YtbbgieopcmjoeaaGreatDoorLook
import Derived.Deep.QuietTactic
import Derived.BigQuiet
namespace Go.Proofs.YtbbgieopcmjoeaaGreatDoor
open Go.RowKit
def SameTo (l m : List (List UInt8)) (k : Nat) : Prop := ∀ i, i < k → l[i]? = m[i]?
theorem SameTo.zero (l m : List (List UInt8)) : SameTo l m 0 := fun i h => absurd h (by omega)
theorem SameTo.succ {l m : List (List UInt8)} {k : Nat} (h : SameTo l m k) (hl : k < l.length) (hm : k < m.length) (e : (l[k] == m[k]) = true) : SameTo l m (k + 1) := fun i hi => by
  rcases Nat.lt_or_eq_of_le (Nat.lt_succ_iff.1 hi) with h1 | rfl
  · exact h i h1
  · rw [List.getElem?_eq_getElem hl, List.getElem?_eq_getElem hm, beq_iff_eq.1 e]
theorem SameTo.all {l m : List (List UInt8)} (h : SameTo l m l.length) (hn : l.length = m.length) : (l == m) = true := by
  rw [beq_iff_eq]
  apply List.ext_getElem? ; intro i
  rcases Nat.lt_or_ge i l.length with h1 | h1
  · exact h i h1
  · rw [List.getElem?_eq_none h1, List.getElem?_eq_none (by omega)]
theorem same_not {l m : List (List UInt8)} {k : Nat} (hl : k < l.length) (hm : k < m.length) (e : (l[k] == m[k]) = false) : (l == m) = false := by
  cases h : (l == m)
  · rfl
  · have h' := beq_iff_eq.1 h; subst h'; simp at e
theorem same_len {l m : List (List UInt8)} (h : l.length ≠ m.length) : (l == m) = false := by
  cases h' : (l == m)
  · rfl
  · exact absurd (congrArg List.length (beq_iff_eq.1 h')) h
set_option maxRecDepth 100000 in
set_option maxHeartbeats 800000 in
theorem sameTexts_any (l m : List (List UInt8)) (A B : Option Addr) (ca cb : Nat) (w : World) (hl : l.length ≤ 140737488355328) (hA : Reads w w.heap.size 1 A l.length (l.map str)) (hB : Reads w w.heap.size 1 B m.length (m.map str)) :
    Calls Tryz.prog 30 #[.slice A l.length ca, .slice B m.length cb] w fun e w' => e = .returned (.bool (l == m)) ∧ Below w.heap.size w w' := by
  have HA := Lib.hid hA; clear hA
  have HB := Lib.hid hB; clear hB
  by_cases hn : l.length = m.length
  · have hne : ((l.length : Int) != (m.length : Int)) = false := by rw [hn]; simp
    go_enter Tryz.func30, Tryz.ntmps30
    go_wp2_with fail
    go_loopw [5] (fun i wr => ∃ k : Nat, k ≤ l.length ∧ i = .int .i64 k ∧ Below w.heap.size w wr ∧ SameTo l m k) (fun i _ => l.length - (intOf i).toNat)
    case atStart => exact ⟨0, Nat.zero_le _, rfl, Below.refl _ _, SameTo.zero _ _⟩
    case round =>
      obtain ⟨k, hk, rfl, hb, hno⟩ := hrel
      by_cases hlt : k < l.length
      · have hlm : k < m.length := by omega
        obtain ⟨ba, oa, rfl, hBa, hca⟩ := ((HA.out).below hb).at1 (k := k) (u := str l[k]) hlt (by simp [hlt])
        obtain ⟨bb, ob, rfl, hBb, hcb⟩ := ((HB.out).below hb).at1 (k := k) (u := str m[k]) hlm (by simp [hlm])
        have HN := Lib.hid hno; clear hno
        cases hq : (l[k] == m[k])
        · have HQ := Lib.hid (same_not hlt hlm hq)
          generalize l[k] = x at hca hq
          generalize m[k] = y at hcb hq
          go_wp2_with fail
          go_quiet (fail)
          go_wp2_with fail
          go_ret
          exact ⟨ret_bool HQ.out.symm, below_drewN hb _⟩
        · have HQ := Lib.hid (SameTo.succ HN.out hlt hlm hq)
          generalize l[k] = x at hca hq
          generalize m[k] = y at hcb hq
          go_wp2_with fail
          go_quiet (fail)
          go_wp2_with fail
          go_roundw
          case rel => exact ⟨k + 1, by omega, by go_num, below_drewN hb _, HQ.out⟩
          case measure => simp [intOf]; omega
      · go_wp2_with fail
        go_ret
        exact ⟨ret_bool (SameTo.all (by rw [show l.length = k by omega]; exact hno) hn).symm, hb⟩
  · have hne : ((l.length : Int) != (m.length : Int)) = true := by simp; omega
    go_enter Tryz.func30, Tryz.ntmps30
    go_wp2_with fail
    go_ret
    exact ⟨ret_bool (same_len hn).symm, Below.refl _ _⟩
end Go.Proofs.YtbbgieopcmjoeaaGreatDoor
