/- package words: symbols that clash. -/
import Derived.Test.YtbbgieopcmjoeaaGreatDoorFind3
namespace Go.Proofs.YtbbgieopcmjoeaaGreatDoor
open Go.RowKit
def clashL (a b : Ent) : Bool := (a.2.2 == b.2.2) && (!(a.2.1 == 3) && (!(b.2.1 == 3) && ((a.2.1 == 5) != (b.2.1 == 5))))
theorem u8_beq (b : UInt8) (n : Nat) (hn : n < 256) : ((b.toNat : Int) == (n : Int)) = (b == UInt8.ofNat n) := by
  rw [Bool.eq_iff_iff, u8_eq b n hn, beq_iff_eq]
theorem u8_bne (b : UInt8) (n : Nat) (hn : n < 256) : ((b.toNat : Int) != (n : Int)) = !(b == UInt8.ofNat n) := by
  rw [bne, u8_beq b n hn]
theorem u8_beq3 (b : UInt8) : ((b.toNat : Int) == 3) = (b == 3) := u8_beq b 3 (by omega)
theorem u8_bne3 (b : UInt8) : ((b.toNat : Int) != 3) = !(b == 3) := u8_bne b 3 (by omega)
theorem u8_beq5 (b : UInt8) : ((b.toNat : Int) == 5) = (b == 5) := u8_beq b 5 (by omega)
set_option maxRecDepth 100000 in
set_option maxHeartbeats 800000 in
theorem clash_any (a b : Ent) (w : World) :
    Calls Tryz.prog 44 #[entV a, entV b] w fun e w' => e = .returned (.bool (clashL a b)) ∧ Below w.heap.size w w' := by
  obtain ⟨ax, ac, asy⟩ := a
  obtain ⟨bx, bc, bsy⟩ := b
  have hB := ((Below.refl w.heap.size w).alloc (Nat.le_refl _) (.cells #[str ax, byteV ac, str asy] 24)).alloc (by simp) (.cells #[str bx, byteV bc, str bsy] 24)
  have a3 := u8_beq3 ac
  have b3 := u8_beq3 bc
  have a5 := u8_beq5 ac
  have b5 := u8_beq5 bc
  have na3 := u8_bne3 ac
  have nb3 := u8_bne3 bc
  cases hs : (asy == bsy) <;> cases h3 : (ac == 3) <;> cases k3 : (bc == 3)
  all_goals
    rw [h3] at a3 na3
    rw [k3] at b3 nb3
    have HS := Lib.hid hs
    have H3 := Lib.hid h3; clear h3
    have K3 := Lib.hid k3; clear k3
    have hf : Hid (clashL (ax, ac, asy) (bx, bc, bsy) = (_ && (_ && (_ && _)))) := rfl
    go_enter Tryz.func44, Tryz.ntmps44
    go_wp2_with fail
    go_ret
    refine ⟨ret_bool ?_, hB⟩
    rw [hf.out]
    have e1 : (asy == bsy) = _ := HS.out
    have e2 : (ac == 3) = _ := H3.out
    have e3 : (bc == 3) = _ := K3.out
    simp only [e1, e2, e3, Bool.not_false, Bool.not_true, Bool.true_and, Bool.false_and, bne]
    try rfl
theorem valid1_any (o e : Ent) (B : Nat) (w : World) (hB : B < w.heap.size) (h0 : w.cell? ⟨B, 0, none⟩ = some (str e.1)) (h1 : w.cell? ⟨B, 1, none⟩ = some (byteV e.2.1)) (h2 : w.cell? ⟨B, 2, none⟩ = some (str e.2.2)) :
    Calls Tryz.prog 49 #[entV o, .pointer (some ⟨B, 0, none⟩)] w fun e' w' => e' = .returned (.bool (clashL o e)) ∧ Below w.heap.size w w' := by
  obtain ⟨ox, oc, osy⟩ := o
  obtain ⟨ex, ec, esy⟩ := e
  have hb := (Below.refl w.heap.size w).alloc (Nat.le_refl _) (.cells #[str ox, byteV oc, str osy] 24)
  go_enter Tryz.func49, Tryz.ntmps49
  go_wp2_with (go_at_call 44; refine (clash_any (ox, oc, osy) (ex, ec, esy) _).mono ?_; rintro e w' ⟨rfl, hb'⟩)
  go_ret
  exact ⟨rfl, below_then hb hb'⟩
end Go.Proofs.YtbbgieopcmjoeaaGreatDoor
