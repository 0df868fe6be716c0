/- '==' over entries and over forms; lyceumlaw33.Same. -/
import Derived.Test.YtbbgieopcmjoeaaGreatDoorAddsP
import Derived.Test.YtbbgieopcmjoeaaGreatDoorSameTexts
import Derived.Laws.StructEq
import Derived.Laws.Tables
namespace Go.Proofs.YtbbgieopcmjoeaaGreatDoor
open Go.RowKit
theorem guardEnt (op : BinOp) (x y : Operand) (xs ys : Array Value) (w : World) : (eqGuard op 24 x y (.agg xs) (.agg ys)).run Tryz.prog w = .ok () w := run_eqGuard_agg w op _ x y xs ys (by kernel_rfl)
theorem ent_bool (x y : Ent) : (x.1 == y.1 && ((x.2.1 == y.2.1) && (x.2.2 == y.2.2))) = decide (x = y) := by
  obtain ⟨a, b, c⟩ := x
  obtain ⟨a', b', c'⟩ := y
  rw [Bool.eq_iff_iff]
  simp
theorem str_beq (a b : List UInt8) : (ByteArray.toList ⟨a.toArray⟩ == ByteArray.toList ⟨b.toArray⟩) = (a == b) := by
  rw [ByteArray.toList_eq, ByteArray.toList_eq]
set_option maxRecDepth 100000 in
theorem eqEnt (x y : Ent) (w : World) : (Op.equalIn 10000 24 (.agg #[str x.1, byteV x.2.1, str x.2.2]) (.agg #[str y.1, byteV y.2.1, str y.2.2])).run Tryz.prog w = .ok (decide (x = y)) w := by
  have u1 := Tryz.underlying9
  have u2 := Tryz.underlying5
  have a1 := Tryz.isAgg9
  have a2 := Tryz.isAgg5
  have z1 := Tryz.sizeOf9
  have z2 := Tryz.sizeOf5
  have hS : Tryz.prog.underlying 24 = some (.struct (Tryz.prog.fieldsOf 24)) := by kernel_rfl
  have hp : Tryz.prog.stoodInHeld 24 = false := by kernel_rfl
  rw [show (10000 : Nat) = 9999 + 1 from rfl, run_equalIn_agg w 9999 24 _ _ hS hp, ← ent_bool]
  simp only [Program.fieldsOf, Tryz.underlying24]
  go_simp
  obtain ⟨a, b, c⟩ := x
  obtain ⟨a', b', c'⟩ := y
  have hb : ((b.toNat : Int) = (b'.toNat : Int)) ↔ b = b' := ⟨fun h => UInt8.toNat_inj.1 (Int.ofNat_inj.1 h), fun h => by rw [h]⟩
  by_cases h1 : a = a' <;> by_cases h2 : b = b' <;> by_cases h3 : c = c' <;> simp [hb, h1, h2, h3]
theorem neqEnt (x y : Ent) (w : World) : (binOp .neq 24 (.agg #[str x.1, byteV x.2.1, str x.2.2]) (.agg #[str y.1, byteV y.2.1, str y.2.2])).run Tryz.prog w = .ok (.bool (!decide (x = y))) w := by
  rw [run_neq_struct, eqEnt]
  rfl
def SameET (l m : List Ent) (k : Nat) : Prop := ∀ i, i < k → l[i]? = m[i]?
theorem SameET.zero (l m : List Ent) : SameET l m 0 := fun i h => absurd h (by omega)
theorem SameET.succ {l m : List Ent} {k : Nat} (h : SameET l m k) (hl : k < l.length) (hm : k < m.length) (e : l[k] = m[k]) : SameET l m (k + 1) := fun i hi => by
  rcases Nat.lt_or_eq_of_le (Nat.lt_succ_iff.1 hi) with h1 | rfl
  · exact h i h1
  · rw [List.getElem?_eq_getElem hl, List.getElem?_eq_getElem hm, e]
theorem SameET.all {l m : List Ent} (h : SameET l m l.length) (hn : l.length = m.length) : decide (l = m) = true := by
  rw [decide_eq_true_iff]
  apply List.ext_getElem? ; intro i
  rcases Nat.lt_or_ge i l.length with h1 | h1
  · exact h i h1
  · rw [List.getElem?_eq_none h1, List.getElem?_eq_none (by omega)]
theorem sameE_not {l m : List Ent} {k : Nat} (hl : k < l.length) (hm : k < m.length) (e : l[k] ≠ m[k]) : decide (l = m) = false := by
  rw [decide_eq_false_iff_not]
  intro h ; subst h ; exact e rfl
theorem sameE_len {l m : List Ent} (h : l.length ≠ m.length) : decide (l = m) = false := by
  rw [decide_eq_false_iff_not]
  intro h' ; exact h (congrArg List.length h')
set_option maxRecDepth 100000 in
set_option maxHeartbeats 800000 in
theorem sameE_any (l m : List Ent) (A B : Option Addr) (ca cb : Nat) (w : World) (hl : l.length ≤ 140737488355328) (hA : Reads w w.heap.size 3 A l.length (flat l)) (hB : Reads w w.heap.size 3 B m.length (flat m)) :
    Calls Tryz.prog 16 #[.slice A l.length ca, .slice B m.length cb] w fun e w' => e = .returned (.bool (decide (l = m))) ∧ Below w.heap.size w w' := by
  have HA := Lib.hid hA; clear hA
  have HB := Lib.hid hB; clear hB
  by_cases hn : l.length = m.length
  · have hne : ((l.length : Int) != (m.length : Int)) = false := by rw [hn]; simp
    go_enter Tryz.func16, Tryz.ntmps16
    go_wp2_with fail
    go_loopw [5] (fun i wr => ∃ k : Nat, k ≤ l.length ∧ i = .int .i64 k ∧ Below w.heap.size w wr ∧ SameET l m k) (fun i _ => l.length - (intOf i).toNat)
    case atStart => exact ⟨0, Nat.zero_le _, rfl, Below.refl _ _, SameET.zero _ _⟩
    case round =>
      obtain ⟨k, hk, rfl, hb, hno⟩ := hrel
      by_cases hlt : k < l.length
      · have hlm : k < m.length := by omega
        obtain ⟨ba, oa, rfl, hBa, a0, a1, a2⟩ := ((HA.out).below hb).ent hlt
        obtain ⟨bb, ob, rfl, hBb, b0, b1, b2⟩ := ((HB.out).below hb).ent hlm
        have HN := Lib.hid hno; clear hno
        by_cases hq : l[k] = m[k]
        · have HQ := Lib.hid (SameET.succ HN.out hlt hlm hq)
          have hx := fun W => neqEnt l[k] m[k] W
          rw [show decide (l[k] = m[k]) = true from decide_eq_true hq] at hx
          clear hq
          have hg := guardEnt .neq
          generalize l[k] = x at *
          generalize m[k] = y at *
          go_wp2_with fail
          go_quiet (fail)
          go_wp2_with fail
          go_roundw
          case rel => exact ⟨k + 1, by omega, by go_num, below_drewN hb _, HQ.out⟩
          case measure => simp [intOf]; omega
        · have HQ := Lib.hid (sameE_not hlt hlm hq)
          have hx := fun W => neqEnt l[k] m[k] W
          rw [show decide (l[k] = m[k]) = false from decide_eq_false hq] at hx
          clear hq
          generalize l[k] = x at *
          generalize m[k] = y at *
          go_wp2_with fail
          go_quiet (fail)
          go_wp2_with fail
          go_ret
          exact ⟨ret_bool HQ.out.symm, below_drewN hb _⟩
      · go_wp2_with fail
        go_ret
        exact ⟨ret_bool (SameET.all (by rw [show l.length = k by omega]; exact hno) hn).symm, hb⟩
  · have hne : ((l.length : Int) != (m.length : Int)) = true := by simp; omega
    go_enter Tryz.func16, Tryz.ntmps16
    go_wp2_with fail
    go_ret
    exact ⟨ret_bool (sameE_len hn).symm, Below.refl _ _⟩
end Go.Proofs.YtbbgieopcmjoeaaGreatDoor
