/- package syntax: the names of symbols. -/
import Derived.Test.YtbbgieopcmjoeaaGreatDoorWords1
namespace Go.Proofs.YtbbgieopcmjoeaaGreatDoor
open Go.RowKit
def isAt (ss : List (List UInt8)) (l : List UInt8) (i : Nat) : Bool := (ss[i]?.map fun x => x == l).getD false
theorem any_isAt (ss : List (List UInt8)) (l : List UInt8) : anyIdx (isAt ss l) ss.length = ss.contains l := by
  have h := anyIdx_list (fun x => x == l) ss (isAt ss l) (fun i hi => by simp [isAt, hi])
  rw [h, List.contains_eq_any_beq]
  congr 1
  funext x
  exact Bool.beq_comm
set_option maxRecDepth 100000 in
set_option maxHeartbeats 400000 in
theorem index_string (A : Option Addr) (c : Nat) (ss : List (List UInt8)) (l : List UInt8) (w : World) (hm : ss.length ≤ 140737488355328) (hr : Reads w w.heap.size 1 A ss.length (ss.map str)) :
    Calls Tryz.prog 129 #[.slice A ss.length c, str l] w fun e w' => e = .returned (idxV (isAt ss l) ss.length) ∧ w = w' := by
  have HR := Lib.hid hr; clear hr
  go_enter Tryz.func129, Tryz.ntmps129
  go_wp2_with fail
  go_loop [8] (fun i => ∃ k : Nat, k ≤ ss.length ∧ i = .int .i64 k ∧ NoneTo (isAt ss l) k) (fun i => ss.length - (intOf i).toNat)
  case atStart => exact ⟨0, Nat.zero_le _, rfl, NoneTo.zero _⟩
  case round =>
    obtain ⟨k, hk, rfl, hno⟩ := hrel
    by_cases hlt : k < ss.length
    · obtain ⟨ad, u, rfl, hB, hx, hc⟩ := (HR.out).at_ hlt
      have hu : str ss[k] = u := by simpa [hlt] using hx
      have hp : isAt ss l k = (ss[k] == l) := by simp [isAt, hlt]
      rw [← hu] at hc
      clear hx hu
      generalize ss[k] = x at hc hp
      cases hq : (x == l)
      · rw [hq] at hp
        have HP := Lib.hid hp; clear hp
        have hq' : (l == x) = false := by rw [Bool.beq_comm]; exact hq
        go_wp2_with fail
        go_round
        case rel => exact ⟨k + 1, by omega, by go_num, hno.succ HP.out⟩
        case measure => simp [intOf]; omega
      · rw [hq] at hp
        have HP := Lib.hid hp; clear hp
        have hq' : (l == x) = true := by rw [Bool.beq_comm]; exact hq
        go_wp2_with fail
        go_ret
        exact ⟨by rw [idxV_hit hlt hno HP.out]; rfl, rfl⟩
    · go_wp2_with fail
      go_ret
      exact ⟨by rw [idxV_miss (fun i hi => hno i (by omega))]; rfl, rfl⟩
set_option maxRecDepth 100000 in
theorem contains_string (A : Option Addr) (c : Nat) (ss : List (List UInt8)) (l : List UInt8) (w : World) (hm : ss.length ≤ 140737488355328) (hr : Reads w w.heap.size 1 A ss.length (ss.map str)) :
    Calls Tryz.prog 112 #[.slice A ss.length c, str l] w fun e w' => e = .returned (.bool (ss.contains l)) ∧ w = w' := by
  have HI := Lib.hid (index_string A c ss l w hm hr)
  have HE := Lib.hid (any_isAt ss l)
  clear hr
  by_cases hlt : firstIdx (isAt ss l) ss.length < ss.length
  · have HV : Hid (idxV (isAt ss l) ss.length = .int .i64 (firstIdx (isAt ss l) ss.length)) := by unfold idxV; rw [if_pos hlt]; rfl
    go_enter Tryz.func112, Tryz.ntmps112
    go_wp2_with (go_at_call 129; refine (HI.out).mono ?_; rintro e w' ⟨rfl, rfl⟩; rw [HV.out])
    go_ret
    exact ⟨ret_bool (by rw [← HE.out]; simp [anyIdx, hlt]), rfl⟩
  · have HV : Hid (idxV (isAt ss l) ss.length = .int .i64 (-1)) := by unfold idxV; rw [if_neg hlt]; rfl
    go_enter Tryz.func112, Tryz.ntmps112
    go_wp2_with (go_at_call 129; refine (HI.out).mono ?_; rintro e w' ⟨rfl, rfl⟩; rw [HV.out])
    go_ret
    exact ⟨ret_bool (by rw [← HE.out]; simp [anyIdx, hlt]), rfl⟩
def digB (b : Int) : Bool := decide (48 ≤ b) && decide (b ≤ 57)
def nlB (b : Int) : Bool := smallB b || capB b || digB b
def fnB (b : Int) : Bool := decide (97 ≤ b) && decide (b ≤ 116)
theorem ssmall_any (b : Int) (w : World) : Calls Tryz.prog 114 #[.int .u8 b] w fun e w' => e = .returned (.bool (smallB b)) ∧ w = w' := by
  go_enter Tryz.func114, Tryz.ntmps114
  go_wp2_with fail
  all_goals (try go_ret)
  all_goals exact ⟨by simp_all [smallB] <;> omega, rfl⟩
theorem scapital_any (b : Int) (w : World) : Calls Tryz.prog 84 #[.int .u8 b] w fun e w' => e = .returned (.bool (capB b)) ∧ w = w' := by
  go_enter Tryz.func84, Tryz.ntmps84
  go_wp2_with fail
  all_goals (try go_ret)
  all_goals exact ⟨by simp_all [capB] <;> omega, rfl⟩
theorem sdigit_any (b : Int) (w : World) : Calls Tryz.prog 115 #[.int .u8 b] w fun e w' => e = .returned (.bool (digB b)) ∧ w = w' := by
  go_enter Tryz.func115, Tryz.ntmps115
  go_wp2_with fail
  all_goals (try go_ret)
  all_goals exact ⟨by simp_all [digB] <;> omega, rfl⟩
theorem sfn1_any (b : Int) (w : World) : Calls Tryz.prog 81 #[.int .u8 b] w fun e w' => e = .returned (.bool (fnB b)) ∧ w = w' := by
  go_enter Tryz.func81, Tryz.ntmps81
  go_wp2_with fail
  all_goals (try go_ret)
  all_goals exact ⟨by simp_all [fnB] <;> omega, rfl⟩
theorem sletter_any (b : Int) (w : World) : Calls Tryz.prog 82 #[.int .u8 b] w fun e w' => e = .returned (.bool (nlB b)) ∧ w = w' := by
  cases hs : smallB b <;> cases hc : capB b
  all_goals
    have HS := Lib.hid hs; clear hs
    have HC := Lib.hid hc; clear hc
    go_enter Tryz.func82, Tryz.ntmps82
    go_wp2_with (first | (go_at_call 114; refine (ssmall_any _ _).mono ?_; rintro e w' ⟨rfl, rfl⟩; rw [HS.out]) | (go_at_call 84; refine (scapital_any _ _).mono ?_; rintro e w' ⟨rfl, rfl⟩; rw [HC.out]) | (go_at_call 115; refine (sdigit_any _ _).mono ?_; rintro e w' ⟨rfl, rfl⟩))
    go_ret
    exact ⟨by simp [nlB, HS.out, HC.out], rfl⟩
/-- A function value that captures nothing, and answers q at each byte. -/
def IsQ (g : Nat) (q : Int → Bool) : Prop := Enters Tryz.prog g ∧ ∀ (b : Int) (W : World), Calls Tryz.prog g #[.int .u8 b] W fun e w' => e = .returned (.bool (q b)) ∧ W = w'
theorem q_letter : IsQ 82 nlB := ⟨enters_of Tryz.func82 (by kernel_rfl) rfl, sletter_any⟩
theorem q_capital : IsQ 84 capB := ⟨enters_of Tryz.func84 (by kernel_rfl) rfl, scapital_any⟩
theorem q_fn1 : IsQ 81 fnB := ⟨enters_of Tryz.func81 (by kernel_rfl) rfl, sfn1_any⟩
theorem name1_any {g : Nat} {q : Int → Bool} (hq : IsQ g q) (b : Int) (B : Nat) (w : World) (hc : w.cell? ⟨B, 0, none⟩ = some (.func (.func g) #[] #[])) :
    Calls Tryz.prog 113 #[.int .u8 b, .pointer (some ⟨B, 0, none⟩)] w fun e w' => e = .returned (.bool (!q b)) ∧ w = w' := by
  obtain ⟨eg, hg⟩ := hq
  have he := fun args W => eg args W
  have HG := Lib.hid hg; clear hg eg
  go_enter Tryz.func113, Tryz.ntmps113
  go_wp2_with (go_at_fn g; refine ((HG.out) _ _).mono ?_; rintro e w' ⟨rfl, rfl⟩)
  go_ret
  exact ⟨rfl, rfl⟩
theorem enters_name1 : Enters Tryz.prog 113 := enters_of Tryz.func113 (by kernel_rfl) rfl
def wordsL : List (List UInt8) := [[97, 108, 108], [115, 111, 109, 101], [102, 97, 108, 115, 101], [110, 101, 120, 116], [97, 108, 119, 97, 121, 115], [117, 110, 116, 105, 108]]
def nameL (q1 q2 : Int → Bool) (l : List UInt8) : Bool := match l with
  | [] => false
  | b :: r => decide (r.length < 16) && (q1 b.toNat && (!wordsL.contains (b :: r) && r.all fun x => q2 x.toNat))
abbrev boxed (w : World) (g : Nat) : World := w.alloc (.cells #[.func (.func g) #[] #[]] 88)
theorem name_mid {g2 : Nat} (w : World) (b : UInt8) (r : List UInt8) (cs : List Value) (hcs : cs = wordsL.map str) :
    Calls Tryz.prog 112 #[.slice (some ⟨w.heap.size + 1, 0, none⟩) 6 6, str (b :: r)] ((boxed w g2).alloc (.cells cs.toArray 9)) fun e w' => e = .returned (.bool (wordsL.contains (b :: r))) ∧
      (Below w.heap.size w w' ∧ w.heap.size + 1 ≤ w'.heap.size) ∧ w'.cell? ⟨w.heap.size, 0, none⟩ = some (.func (.func g2) #[] #[]) := by
  have hr := Reads.new (boxed w g2) 9 1 6 cs (by rw [hcs]; rfl)
  rw [hcs] at hr ⊢
  rw [World.size_alloc] at hr
  refine (contains_string (some ⟨w.heap.size + 1, 0, none⟩) 6 wordsL (b :: r) _ (by simp [wordsL]) (hr.more (by simp))).mono ?_
  rintro e w' ⟨rfl, rfl⟩
  refine ⟨rfl, ⟨((Below.refl _ _).alloc (Nat.le_refl _) _).alloc (by simp) _, by simp⟩, ?_⟩
  rw [World.cell?_alloc_lt _ _ _ (by simp)]
  exact (Blk.new w 88 #[.func (.func g2) #[] #[]]).cell 0
theorem contains_rest {g2 : Nat} {q2 : Int → Bool} (h2 : IsQ g2 q2) {B c : Nat} {A : Option Addr} {W : World} (r : List UInt8) (hm : r.length ≤ 140737488355328) (hc : W.cell? ⟨B, 0, none⟩ = some (.func (.func g2) #[] #[]))
    (hr : Reads W W.heap.size 1 A r.length (r.map byteV)) :
    Calls Tryz.prog 77 #[.slice A r.length c, .func (.func 113) #[] #[.pointer (some ⟨B, 0, none⟩)]] W fun e w' => e = .returned (.bool (r.any fun x => !q2 x.toNat)) ∧ Below W.heap.size W w' := by
  have hB : B < W.heap.size := by
    rcases Nat.lt_or_ge B W.heap.size with h | h
    · exact h
    · simp [World.cell?, Array.getElem?_eq_none h] at hc
  rw [← any_atB (fun x : UInt8 => !q2 x.toNat) r]
  refine containsFunc_byte A r.length c _ 113 enters_name1 [.pointer (some ⟨B, 0, none⟩)] _ W hm hr (fun i hi W' hb => ?_)
  have e1 : (r.map byteV).getD i undef = byteV r[i] := by simp [hi]
  have e2 : atB (fun x : UInt8 => !q2 x.toNat) r i = !q2 r[i].toNat := by simp [atB, hi]
  show Calls Tryz.prog 113 #[(r.map byteV).getD i undef, .pointer (some ⟨B, 0, none⟩)] W' _
  rw [e1, e2]
  exact (name1_any h2 r[i].toNat B W' ((hb.cell (p := ⟨B, 0, none⟩) hB).trans hc)).mono fun e w' ⟨a, b⟩ => ⟨a, b ▸ Below.refl _ _⟩
set_option maxRecDepth 100000 in
set_option maxHeartbeats 400000 in
theorem name_any {g1 g2 : Nat} {q1 q2 : Int → Bool} (h1 : IsQ g1 q1) (h2 : IsQ g2 q2) (l : List UInt8) (w : World) :
    Calls Tryz.prog 80 #[str l, .func (.func g1) #[] #[], .func (.func g2) #[] #[]] w fun e w' => e = .returned (.bool (nameL q1 q2 l)) ∧ Below w.heap.size w w' := by
  have hB := (Below.refl w.heap.size w).alloc (Nat.le_refl _) (.cells #[.func (.func g2) #[] #[]] 88)
  cases l with
  | nil =>
    clear h1 h2
    go_enter Tryz.func80, Tryz.ntmps80
    go_wp2_with fail
    go_ret
    exact ⟨rfl, hB⟩
  | cons b r =>
    rcases Nat.lt_or_ge 16 (r.length + 1) with hl | hl
    · clear h1 h2
      go_enter Tryz.func80, Tryz.ntmps80
      go_wp2_with fail
      go_ret
      exact ⟨ret_bool (by simp [nameL]; omega), hB⟩
    · obtain ⟨e1, c1⟩ := h1
      have he1 := fun args W => e1 args W
      cases hq : q1 b.toNat
      · have HC := Lib.hid (fun W => hq ▸ c1 b.toNat W)
        have HH := Lib.hid hq; clear hq c1 h2 e1
        go_enter Tryz.func80, Tryz.ntmps80
        go_wp2_with (go_at_fn g1; refine ((HC.out) _).mono ?_; rintro e w' ⟨rfl, rfl⟩)
        go_ret
        exact ⟨ret_bool (by simp [nameL, HH.out]), hB⟩
      · have HC := Lib.hid (fun W => hq ▸ c1 b.toNat W)
        have HH := Lib.hid hq; clear hq c1 e1
        have H2 := Lib.hid h2; clear h2
        have hx := tail_ex b r
        cases hw : wordsL.contains (b :: r)
        · have HW := Lib.hid hw; clear hw
          go_enter Tryz.func80, Tryz.ntmps80
          go_wp2_with (first
            | (go_at_call 112; refine (name_mid (g2 := g2) w b r _ rfl).mono ?_; rintro e w1 ⟨rfl, hb1, hc1⟩; rw [HW.out]; obtain ⟨c, W', hcv, hb2, hs, hr⟩ := conv_bytes w1 r; have hc2 := (hb2.cell (p := ⟨w.heap.size, 0, none⟩) (Nat.lt_of_lt_of_le (Nat.lt_succ_self _) hb1.2)).trans hc1)
            | (go_at_call 77; refine (contains_rest (H2.out) r (by omega) hc2 hr).mono ?_; rintro e w' ⟨rfl, hb3⟩)
            | (go_at_fn g1; refine ((HC.out) _).mono ?_; rintro e w' ⟨rfl, rfl⟩))
          go_ret
          exact ⟨ret_bool (by rw [any_not]; simp only [nameL]; rw [HH.out, HW.out, decide_eq_true (show r.length < 16 by omega)]; rfl), below_then (below_then hb1.1 hb2) hb3⟩
        · have HW := Lib.hid hw; clear hw
          go_enter Tryz.func80, Tryz.ntmps80
          go_wp2_with (first
            | (go_at_call 112; refine (name_mid (g2 := g2) w b r _ rfl).mono ?_; rintro e w1 ⟨rfl, hb1, hc1⟩; rw [HW.out])
            | (go_at_fn g1; refine ((HC.out) _).mono ?_; rintro e w' ⟨rfl, rfl⟩))
          go_ret
          exact ⟨ret_bool (by simp only [nameL]; rw [HH.out, HW.out]; simp), hb1.1⟩
set_option maxRecDepth 100000 in
theorem sfunction_any (l : List UInt8) (w : World) : Calls Tryz.prog 54 #[str l] w fun e w' => e = .returned (.bool (nameL fnB nlB l)) ∧ Below w.heap.size w w' := by
  go_enter Tryz.func54, Tryz.ntmps54
  go_wp2_with (go_at_call 80; refine (name_any q_fn1 q_letter _ _).mono ?_; rintro e w' ⟨rfl, hb⟩)
  go_ret
  exact ⟨rfl, hb⟩
set_option maxRecDepth 100000 in
theorem spredicate_any (l : List UInt8) (w : World) : Calls Tryz.prog 56 #[str l] w fun e w' => e = .returned (.bool (nameL capB nlB l)) ∧ Below w.heap.size w w' := by
  go_enter Tryz.func56, Tryz.ntmps56
  go_wp2_with (go_at_call 80; refine (name_any q_capital q_letter _ _).mono ?_; rintro e w' ⟨rfl, hb⟩)
  go_ret
  exact ⟨rfl, hb⟩
end Go.Proofs.YtbbgieopcmjoeaaGreatDoor
