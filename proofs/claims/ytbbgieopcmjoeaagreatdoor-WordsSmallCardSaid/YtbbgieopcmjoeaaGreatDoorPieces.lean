/- package words: the iterator over the pieces of a text. -/
import Derived.Test.YtbbgieopcmjoeaaGreatDoorPiecesP
import Derived.RangeFuncNested
import Derived.RangeFuncBound
import Derived.RangeFuncCalls
import Derived.RangeFuncLeaves
import Derived.RangeFuncBox
import Derived.Shelf.RegionOpen
import Derived.OwnWalkIn
import Derived.TacticsInMore
import Derived.LoopNIn
import Derived.LoopIn
import Derived.Maps.AppendAt
namespace Go.Proofs.YtbbgieopcmjoeaaGreatDoor
open Go.RowKit Go.Shelf
attribute [local go_sem] Oper.semAt_some
/-- A piece with its place. -/
abbrev Piece := { x : Nat × List UInt8 // okPiece x.2 }
abbrev encP (x : Piece) : Array Value := #[num x.1.1, str x.1.2]
/-- The cell in which the text lies is kept. -/
def KeepsS (B : Nat) (W W' : World) : Prop := W'.cell? ⟨B, 0, none⟩ = W.cell? ⟨B, 0, none⟩
theorem ext_take (s : List UInt8) (a n : Nat) : (ByteArray.mk s.toArray).extract a (a + n) = ⟨((s.drop a).take n).toArray⟩ := by rw [ByteArray.extract_mk, Nat.add_sub_cancel_left]
theorem u8_beq32 (b : UInt8) : ((b.toNat : Int) == 32) = (b == 32) := u8_beqN b 32 (by omega)
/-- What the loop over the letters knows. -/
def Lets (s : List UInt8) (a : Nat) (b : UInt8) (n : Nat) : Prop := (1 < n → letU b = true) ∧ ∀ i, 1 ≤ i → i < n → letU (s.getD (a + i) 0) = true
set_option maxRecDepth 100000 in
set_option maxHeartbeats 4000000 in
theorem pieces1_in (s : List UInt8) (hs : s.length ≤ 1048576) (l B : Nat) (J Jx : List Piece → World → Prop)
    (hY : ∀ pre x W, J pre W → pre.length < s.length → YieldAt Fence.wide (2 - 1) Tryz.prog l (encP x) W fun e W' =>
      (e = .returned (.bool true) ∧ J (pre ++ [x]) W' ∧ KeepsS B W W') ∨ (e = .returned (.bool false) ∧ Jx (pre ++ [x]) W'))
    (W : World) (hB : W.cell? ⟨B, 0, none⟩ = some (str s)) (h0 : J [] W) :
    CallsIn Fence.wide 2 Tryz.prog 97 #[.func (.yield l) #[] #[], .pointer (some ⟨B, 0, none⟩)] W fun e W' => (∃ v, e = .returned v) ∧
      ((∃ ys : List Piece, ys.map (·.1) = piecesOf s ∧ J ys W') ∨ (∃ pre : List Piece, pre.map (·.1) <+: piecesOf s ∧ Jx pre W')) := by
  refine callsIn_of_wp Tryz.func97 rfl trivial ?_ rfl
  simp only [Tryz.ntmps97, List.size_toArray, List.length_cons, List.length_nil, Nat.reduceAdd, Nat.reduceSub, Array.replicate_succ, Array.replicate_zero, List.push_toArray, List.append_toArray, List.nil_append, List.cons_append]
  have HY := Lib.hid hY; clear hY
  have hwide : ∀ f, Fence.wide.fn f := fun _ => trivial
  gi_wp2_with fail
  gi_loopw [3] (fun i wr => ∃ (a f : Nat) (pre : List Piece), i = .int .i64 a ∧ a ≤ s.length ∧ s.length ≤ a + f ∧ piecesOf s = pre.map (·.1) ++ piecesL f a (s.drop a) ∧ pre.length ≤ a ∧ J pre wr ∧ wr.cell? ⟨B, 0, none⟩ = some (str s)) (fun i _ => s.length - (intOf i).toNat)
  case atStart => exact ⟨0, s.length, [], rfl, Nat.zero_le _, by omega, rfl, by simp, h0, hB⟩
  case round =>
    obtain ⟨a, f, pre, rfl, ha, hf, hx, hpl, hJ, hc⟩ := hrel
    have HX := Lib.hid hx; clear hx
    by_cases hlt : a < s.length
    · obtain ⟨b, hb0⟩ : ∃ b, s.getD a 0 = b := ⟨_, rfl⟩
      have HB0 := Lib.hid hb0
      have hga : ∀ h, (ByteArray.mk s.toArray)[a]'h = b := fun h => by rw [ba_get, hb0]
      clear hb0
      gi_wp2_with fail
      gi_loop [4] (fun v => ∃ n : Nat, v = .int .i64 n ∧ 1 ≤ n ∧ a + n ≤ s.length ∧ Lets s a b n) (fun v => s.length - (intOf v).toNat)
      case atStart => exact ⟨1, rfl, by omega, by omega, ⟨fun h => absurd h (by omega), fun i h1 h2 => absurd h2 (by omega)⟩⟩
      case round =>
        obtain ⟨n, rfl, hn1, hna, hlets⟩ := hrel
        obtain ⟨c, hc0⟩ : ∃ c, s.getD (a + n) 0 = c := ⟨_, rfl⟩
        have HC0 := Lib.hid hc0
        have hgc : ∀ h, (ByteArray.mk s.toArray)[a + n]'h = c := fun h => by rw [ba_get, hc0]
        clear hc0
        cases hlb : letU b
        · have hsp : spanLen (s.drop a) = n := spanLen_eq s a n hlt hn1 hna (fun h => by rw [HB0.out]; exact hlets.1 h) (fun i h1 h2 => hlets.2 i h1 h2) (fun h => by rw [HB0.out, hlb] at h; cases h)
          have HLB : Hid (letB (b.toNat : Int) = false) := hlb
          have HLC : Hid (letB (b.toNat : Int) = false) := hlb
          clear hlb
          have HSP := Lib.hid hsp; clear hsp
          cases hsp32 : (b == 32)
          · -- a piece: it is yielded
            have h32 : ((b.toNat : Int) != 32) = true := by rw [bne, u8_beq32, hsp32]; rfl
            have hxs : okPiece ((s.drop a).take n) := by
              have := okPiece_take (s := s.drop a) (by intro e; have := congrArg List.length e; simp at this; omega) (by simp; omega)
              rw [HSP.out] at this; exact this
            obtain ⟨fn, tmps, assign, body, hy, hR⟩ := (HY.out) pre ⟨(a, (s.drop a).take n), hxs⟩ wr hJ (by omega)
            have hex := ext_take s a n
            have HR := Lib.hid hR; clear hR
            have HQ : Hid (piecesOf s = (pre ++ [(⟨(a, (s.drop a).take n), hxs⟩ : Piece)]).map (·.1) ++ piecesL (f - 1) (a + n) (s.drop (a + n))) := by
              obtain ⟨f', rfl⟩ : ∃ f', f = f' + 1 := ⟨f - 1, by omega⟩
              have h := HX.out
              rw [piecesL_step hlt, HSP.out, if_neg (by rw [HB0.out]; simpa using hsp32)] at h
              show piecesOf s = _
              rw [h]; simp
            have HS32 := Lib.hid hsp32; clear hsp32
            gi_wp2_with (gi_at_call 64; refine (callsIn_wide.2 (wletter_any _ _)).mono ?_; rintro e w1 ⟨rfl, rfl⟩; first | rw [HLB.out] | rw [HLC.out])
            refine (HR.out).mono ?_
            rintro e W3 (⟨rfl, hJ3, hk3⟩ | ⟨rfl, hJx3⟩)
            · have hc3 : W3.cell? ⟨B, 0, none⟩ = some (str s) := hk3.trans hc
              gi_wp2_with fail
              go_roundw
              case rel => exact ⟨a + n, f - 1, pre ++ [⟨(a, (s.drop a).take n), hxs⟩], by go_num, by omega, by omega, HQ.out, by simp; omega, hJ3, hc3⟩
              case measure => simp [intOf]; omega
            · gi_wp2_with fail
              refine bodyPost_ret (results_none rfl _ _ _) rfl ?_
              exact ⟨⟨_, rfl⟩, .inr ⟨pre ++ [⟨(a, (s.drop a).take n), hxs⟩], ⟨_, (HQ.out).symm⟩, hJx3⟩⟩
          · -- a blank: passed over
            have h32 : ((b.toNat : Int) != 32) = false := by rw [bne, u8_beq32, hsp32]; rfl
            have HQ : Hid (piecesOf s = pre.map (·.1) ++ piecesL (f - 1) (a + n) (s.drop (a + n))) := by
              obtain ⟨f', rfl⟩ : ∃ f', f = f' + 1 := ⟨f - 1, by omega⟩
              have h := HX.out
              rw [piecesL_step hlt, HSP.out, if_pos (by rw [HB0.out]; simpa using hsp32)] at h
              show piecesOf s = _
              rw [h]; simp
            have HS32 := Lib.hid hsp32; clear hsp32
            gi_wp2_with (gi_at_call 64; refine (callsIn_wide.2 (wletter_any _ _)).mono ?_; rintro e w1 ⟨rfl, rfl⟩; first | rw [HLB.out] | rw [HLC.out])
            go_roundw
            case rel => exact ⟨a + n, f - 1, pre, by go_num, by omega, by omega, HQ.out, by omega, hJ, hc⟩
            case measure => simp [intOf]; omega
        · rcases Nat.lt_or_ge (a + n) s.length with han | han
          · cases hlc : letU c
            · have hsp : spanLen (s.drop a) = n := spanLen_eq s a n hlt hn1 hna (fun h => by rw [HB0.out]; exact hlets.1 h) (fun i h1 h2 => hlets.2 i h1 h2) (fun _ _ => by rw [HC0.out]; exact hlc)
              have HLB : Hid (letB (b.toNat : Int) = true) := hlb
              have HLC : Hid (letB (c.toNat : Int) = false) := hlc
              clear hlb hlc
              have HSP := Lib.hid hsp; clear hsp
              cases hsp32 : (b == 32)
              · -- a piece: it is yielded
                have h32 : ((b.toNat : Int) != 32) = true := by rw [bne, u8_beq32, hsp32]; rfl
                have hxs : okPiece ((s.drop a).take n) := by
                  have := okPiece_take (s := s.drop a) (by intro e; have := congrArg List.length e; simp at this; omega) (by simp; omega)
                  rw [HSP.out] at this; exact this
                obtain ⟨fn, tmps, assign, body, hy, hR⟩ := (HY.out) pre ⟨(a, (s.drop a).take n), hxs⟩ wr hJ (by omega)
                have hex := ext_take s a n
                have HR := Lib.hid hR; clear hR
                have HQ : Hid (piecesOf s = (pre ++ [(⟨(a, (s.drop a).take n), hxs⟩ : Piece)]).map (·.1) ++ piecesL (f - 1) (a + n) (s.drop (a + n))) := by
                  obtain ⟨f', rfl⟩ : ∃ f', f = f' + 1 := ⟨f - 1, by omega⟩
                  have h := HX.out
                  rw [piecesL_step hlt, HSP.out, if_neg (by rw [HB0.out]; simpa using hsp32)] at h
                  show piecesOf s = _
                  rw [h]; simp
                have HS32 := Lib.hid hsp32; clear hsp32
                gi_wp2_with (gi_at_call 64; refine (callsIn_wide.2 (wletter_any _ _)).mono ?_; rintro e w1 ⟨rfl, rfl⟩; first | rw [HLB.out] | rw [HLC.out])
                refine (HR.out).mono ?_
                rintro e W3 (⟨rfl, hJ3, hk3⟩ | ⟨rfl, hJx3⟩)
                · have hc3 : W3.cell? ⟨B, 0, none⟩ = some (str s) := hk3.trans hc
                  gi_wp2_with fail
                  go_roundw
                  case rel => exact ⟨a + n, f - 1, pre ++ [⟨(a, (s.drop a).take n), hxs⟩], by go_num, by omega, by omega, HQ.out, by simp; omega, hJ3, hc3⟩
                  case measure => simp [intOf]; omega
                · gi_wp2_with fail
                  refine bodyPost_ret (results_none rfl _ _ _) rfl ?_
                  exact ⟨⟨_, rfl⟩, .inr ⟨pre ++ [⟨(a, (s.drop a).take n), hxs⟩], ⟨_, (HQ.out).symm⟩, hJx3⟩⟩
              · -- a blank: passed over
                have h32 : ((b.toNat : Int) != 32) = false := by rw [bne, u8_beq32, hsp32]; rfl
                have HQ : Hid (piecesOf s = pre.map (·.1) ++ piecesL (f - 1) (a + n) (s.drop (a + n))) := by
                  obtain ⟨f', rfl⟩ : ∃ f', f = f' + 1 := ⟨f - 1, by omega⟩
                  have h := HX.out
                  rw [piecesL_step hlt, HSP.out, if_pos (by rw [HB0.out]; simpa using hsp32)] at h
                  show piecesOf s = _
                  rw [h]; simp
                have HS32 := Lib.hid hsp32; clear hsp32
                gi_wp2_with (gi_at_call 64; refine (callsIn_wide.2 (wletter_any _ _)).mono ?_; rintro e w1 ⟨rfl, rfl⟩; first | rw [HLB.out] | rw [HLC.out])
                go_roundw
                case rel => exact ⟨a + n, f - 1, pre, by go_num, by omega, by omega, HQ.out, by omega, hJ, hc⟩
                case measure => simp [intOf]; omega
            · have HLB : Hid (letB (b.toNat : Int) = true) := hlb
              have HLC : Hid (letB (c.toNat : Int) = true) := hlc
              gi_wp2_with (gi_at_call 64; refine (callsIn_wide.2 (wletter_any _ _)).mono ?_; rintro e w1 ⟨rfl, rfl⟩; first | rw [HLB.out] | rw [HLC.out])
              go_round
              case rel => exact ⟨n + 1, by go_num, by omega, by omega, ⟨fun _ => hlb, fun i h1 h2 => by
                rcases Nat.lt_or_eq_of_le (Nat.lt_succ_iff.1 h2) with h3 | rfl
                · exact hlets.2 i h1 h3
                · rw [HC0.out]; exact hlc⟩⟩
              case measure => simp [intOf]; omega
          · have hsp : spanLen (s.drop a) = n := spanLen_eq s a n hlt hn1 hna (fun h => by rw [HB0.out]; exact hlets.1 h) (fun i h1 h2 => hlets.2 i h1 h2) (fun _ h => absurd h (by omega))
            have HLB : Hid (letB (b.toNat : Int) = true) := hlb
            have HLC : Hid (letB (b.toNat : Int) = true) := hlb
            clear hlb
            have HSP := Lib.hid hsp; clear hsp
            cases hsp32 : (b == 32)
            · -- a piece: it is yielded
              have h32 : ((b.toNat : Int) != 32) = true := by rw [bne, u8_beq32, hsp32]; rfl
              have hxs : okPiece ((s.drop a).take n) := by
                have := okPiece_take (s := s.drop a) (by intro e; have := congrArg List.length e; simp at this; omega) (by simp; omega)
                rw [HSP.out] at this; exact this
              obtain ⟨fn, tmps, assign, body, hy, hR⟩ := (HY.out) pre ⟨(a, (s.drop a).take n), hxs⟩ wr hJ (by omega)
              have hex := ext_take s a n
              have HR := Lib.hid hR; clear hR
              have HQ : Hid (piecesOf s = (pre ++ [(⟨(a, (s.drop a).take n), hxs⟩ : Piece)]).map (·.1) ++ piecesL (f - 1) (a + n) (s.drop (a + n))) := by
                obtain ⟨f', rfl⟩ : ∃ f', f = f' + 1 := ⟨f - 1, by omega⟩
                have h := HX.out
                rw [piecesL_step hlt, HSP.out, if_neg (by rw [HB0.out]; simpa using hsp32)] at h
                show piecesOf s = _
                rw [h]; simp
              have HS32 := Lib.hid hsp32; clear hsp32
              gi_wp2_with (gi_at_call 64; refine (callsIn_wide.2 (wletter_any _ _)).mono ?_; rintro e w1 ⟨rfl, rfl⟩; first | rw [HLB.out] | rw [HLC.out])
              refine (HR.out).mono ?_
              rintro e W3 (⟨rfl, hJ3, hk3⟩ | ⟨rfl, hJx3⟩)
              · have hc3 : W3.cell? ⟨B, 0, none⟩ = some (str s) := hk3.trans hc
                gi_wp2_with fail
                go_roundw
                case rel => exact ⟨a + n, f - 1, pre ++ [⟨(a, (s.drop a).take n), hxs⟩], by go_num, by omega, by omega, HQ.out, by simp; omega, hJ3, hc3⟩
                case measure => simp [intOf]; omega
              · gi_wp2_with fail
                refine bodyPost_ret (results_none rfl _ _ _) rfl ?_
                exact ⟨⟨_, rfl⟩, .inr ⟨pre ++ [⟨(a, (s.drop a).take n), hxs⟩], ⟨_, (HQ.out).symm⟩, hJx3⟩⟩
            · -- a blank: passed over
              have h32 : ((b.toNat : Int) != 32) = false := by rw [bne, u8_beq32, hsp32]; rfl
              have HQ : Hid (piecesOf s = pre.map (·.1) ++ piecesL (f - 1) (a + n) (s.drop (a + n))) := by
                obtain ⟨f', rfl⟩ : ∃ f', f = f' + 1 := ⟨f - 1, by omega⟩
                have h := HX.out
                rw [piecesL_step hlt, HSP.out, if_pos (by rw [HB0.out]; simpa using hsp32)] at h
                show piecesOf s = _
                rw [h]; simp
              have HS32 := Lib.hid hsp32; clear hsp32
              gi_wp2_with (gi_at_call 64; refine (callsIn_wide.2 (wletter_any _ _)).mono ?_; rintro e w1 ⟨rfl, rfl⟩; first | rw [HLB.out] | rw [HLC.out])
              go_roundw
              case rel => exact ⟨a + n, f - 1, pre, by go_num, by omega, by omega, HQ.out, by omega, hJ, hc⟩
              case measure => simp [intOf]; omega
    · gi_wp2_with fail
      refine bodyPost_end (results_none rfl _ _ _) rfl ?_
      exact ⟨⟨_, rfl⟩, .inl ⟨pre, by have h := HX.out; rw [piecesL_end (by omega), List.append_nil] at h; exact h.symm, hJ⟩⟩
end Go.Proofs.YtbbgieopcmjoeaaGreatDoor
