/- package words: bytes, plain and proper words, words of letters. -/
import Derived.Test.YtbbgieopcmjoeaaGreatDoorFind1
import Derived.Laws.IdiomStrings
namespace Go.Proofs.YtbbgieopcmjoeaaGreatDoor
open Go.RowKit
def smallB (b : Int) : Bool := decide (97 ≤ b) && decide (b ≤ 122)
def capB (b : Int) : Bool := decide (65 ≤ b) && decide (b ≤ 90)
def letB (b : Int) : Bool := smallB b || capB b
abbrev byteV (b : UInt8) : Value := .int .u8 b.toNat
theorem wsmall_any (b : Int) (w : World) : Calls Tryz.prog 79 #[.int .u8 b] w fun e w' => e = .returned (.bool (smallB b)) ∧ w = w' := by
  go_enter Tryz.func79, Tryz.ntmps79
  go_wp2_with fail
  all_goals (try go_ret)
  all_goals exact ⟨by simp_all [smallB] <;> omega, rfl⟩
theorem wcapital_any (b : Int) (w : World) : Calls Tryz.prog 76 #[.int .u8 b] w fun e w' => e = .returned (.bool (capB b)) ∧ w = w' := by
  go_enter Tryz.func76, Tryz.ntmps76
  go_wp2_with fail
  all_goals (try go_ret)
  all_goals exact ⟨by simp_all [capB] <;> omega, rfl⟩
theorem wletter_any (b : Int) (w : World) : Calls Tryz.prog 64 #[.int .u8 b] w fun e w' => e = .returned (.bool (letB b)) ∧ w = w' := by
  cases hs : smallB b
  all_goals
    have HS := Lib.hid hs; clear hs
    go_enter Tryz.func64, Tryz.ntmps64
    go_wp2_with (first | (go_at_call 79; refine (wsmall_any _ _).mono ?_; rintro e w' ⟨rfl, rfl⟩; rw [HS.out]) | (go_at_call 76; refine (wcapital_any _ _).mono ?_; rintro e w' ⟨rfl, rfl⟩))
    go_ret
    exact ⟨by simp [letB, HS.out], rfl⟩
theorem plain1_any (b : Int) (w : World) : Calls Tryz.prog 83 #[.int .u8 b] w fun e w' => e = .returned (.bool (!smallB b)) ∧ w = w' := by
  go_enter Tryz.func83, Tryz.ntmps83
  go_wp2_with (go_at_call 79; refine (wsmall_any _ _).mono ?_; rintro e w' ⟨rfl, rfl⟩)
  go_ret
  exact ⟨rfl, rfl⟩
theorem proper1_any (b : Int) (w : World) : Calls Tryz.prog 78 #[.int .u8 b] w fun e w' => e = .returned (.bool (!smallB b)) ∧ w = w' := by
  go_enter Tryz.func78, Tryz.ntmps78
  go_wp2_with (go_at_call 79; refine (wsmall_any _ _).mono ?_; rintro e w' ⟨rfl, rfl⟩)
  go_ret
  exact ⟨rfl, rfl⟩
theorem word1_any (b : Int) (w : World) : Calls Tryz.prog 126 #[.int .u8 b] w fun e w' => e = .returned (.bool (!letB b)) ∧ w = w' := by
  go_enter Tryz.func126, Tryz.ntmps126
  go_wp2_with (go_at_call 64; refine (wletter_any _ _).mono ?_; rintro e w' ⟨rfl, rfl⟩)
  go_ret
  exact ⟨rfl, rfl⟩
def atB (q : UInt8 → Bool) (l : List UInt8) (i : Nat) : Bool := (l[i]?.map q).getD false
theorem any_atB (q : UInt8 → Bool) (l : List UInt8) : anyIdx (atB q l) l.length = l.any q :=
  anyIdx_list q l _ fun i hi => by simp [atB, hi]
theorem pred_byte {g : Nat} {q : UInt8 → Bool} (h : ∀ (b : UInt8) (W : World), Calls Tryz.prog g #[byteV b] W fun e w' => e = .returned (.bool (q b)) ∧ W = w') (l : List UInt8) (w : World) :
    Pred g [] (fun i => (l.map byteV).getD i undef) l.length (atB q l) w := fun i hi W _ => by
  have e1 : (l.map byteV).getD i undef = byteV l[i] := by simp [hi]
  have e2 : atB q l i = q l[i] := by simp [atB, hi]
  show Calls Tryz.prog g #[(l.map byteV).getD i undef] W _
  rw [e1, e2]
  exact (h l[i] W).mono fun e w' ⟨a, b⟩ => ⟨a, b ▸ Below.refl _ _⟩
theorem reads_bytesRow (W : World) (l : List UInt8) (cap : Nat) (e : TypeId) (fr : Nat × Nat) :
    Reads (W.drew.alloc (.cells (bytesRow ⟨l.toArray⟩ cap) e fr)) (W.heap.size + 1) 1 (some ⟨W.heap.size, 0, none⟩) l.length (l.map byteV) := by
  refine ⟨by simp, fun _ => ⟨_, rfl, Nat.lt_succ_self _, fun j u hu => ?_⟩⟩
  have ea : (⟨W.heap.size, 0, none⟩ : Addr).add j = ⟨W.drew.heap.size, j, none⟩ := by unfold Addr.add; split <;> simp_all
  rw [ea, World.cell?_alloc_mark]
  obtain ⟨hj, rfl⟩ := List.getElem?_eq_some_iff.1 hu
  have hj' : j < l.length := by simpa using hj
  rw [bytesRow_at ⟨l.toArray⟩ cap j (by simpa using hj')]
  simp
theorem conv_bytes (W : World) (l : List UInt8) : ∃ c W', (convert 9 69 (str l)).run Tryz.prog W = .ok (.slice (some ⟨W.heap.size, 0, none⟩) l.length c) W' ∧ Below W.heap.size W W' ∧ W'.heap.size = W.heap.size + 1 ∧ Reads W' W'.heap.size 1 (some ⟨W.heap.size, 0, none⟩) l.length (l.map byteV) := by
  have h := run_bytes_of_string (P := Tryz.prog) W 9 69 5 ⟨l.toArray⟩ Tryz.underlying9 Tryz.underlying69 Tryz.underlying5
  refine ⟨_, _, h, (Below.refl _ _).drew.alloc (Nat.le_refl _) _, by simp, ?_⟩
  have := reads_bytesRow W l (grownCap W l.length 0 5) 5 ((bytesRow ⟨l.toArray⟩ (grownCap W l.length 0 5)).size, (bytesRow ⟨l.toArray⟩ (grownCap W l.length 0 5)).size + 1)
  exact Reads.more this (by simp)
theorem enters_plain1 : Enters Tryz.prog 83 := enters_of Tryz.func83 (by kernel_rfl) rfl
theorem enters_proper1 : Enters Tryz.prog 78 := enters_of Tryz.func78 (by kernel_rfl) rfl
theorem enters_word1 : Enters Tryz.prog 126 := enters_of Tryz.func126 (by kernel_rfl) rfl
def smallU (b : UInt8) : Bool := smallB b.toNat
def capU (b : UInt8) : Bool := capB b.toNat
def letU (b : UInt8) : Bool := letB b.toNat
/-- 'slices.ContainsFunc([]byte(s), f)' at a closure that captures nothing. -/
theorem contains_bytes {g : Nat} (eg : Enters Tryz.prog g) {q : UInt8 → Bool} (h : ∀ (b : UInt8) (W : World), Calls Tryz.prog g #[byteV b] W fun e w' => e = .returned (.bool (q b)) ∧ W = w') (l : List UInt8) (c : Nat) (A : Option Addr) (W : World) (hm : l.length ≤ 140737488355328)
    (hr : Reads W W.heap.size 1 A l.length (l.map byteV)) :
    Calls Tryz.prog 77 #[.slice A l.length c, .func (.func g) #[] #[]] W fun e w' => e = .returned (.bool (l.any q)) ∧ Below W.heap.size W w' := by
  rw [← any_atB q l]
  exact containsFunc_byte A l.length c _ g eg [] _ W hm hr (pred_byte h l W)
theorem tail_ex (b : UInt8) (r : List UInt8) : (ByteArray.mk (b :: r).toArray).extract 1 (r.length + 1) = ⟨r.toArray⟩ := by rw [ByteArray.extract_mk]; simp
def plainL (l : List UInt8) : Bool := decide (0 < l.length) && (decide (l.length ≤ 16) && l.all smallU)
def properL (l : List UInt8) : Bool := decide (l.length ≤ 16) && match l with | [] => false | b :: r => capU b && r.all smallU
def wordL (l : List UInt8) : Bool := !l.isEmpty && l.all letU
theorem any_not (q : UInt8 → Bool) (l : List UInt8) : (!l.any fun b => !q b) = l.all q := by induction l <;> simp_all
set_option maxRecDepth 100000 in
theorem plain_any (l : List UInt8) (w : World) (hm : l.length ≤ 140737488355328) :
    Calls Tryz.prog 55 #[str l] w fun e w' => e = .returned (.bool (plainL l)) ∧ Below w.heap.size w w' := by
  rcases Nat.eq_zero_or_pos l.length with h0 | h0
  · obtain rfl := List.eq_nil_of_length_eq_zero h0
    go_enter Tryz.func55, Tryz.ntmps55
    go_wp2_with fail
    go_ret
    exact ⟨rfl, Below.refl _ _⟩
  · rcases Nat.lt_or_ge 16 l.length with h1 | h1
    · have hd : (decide (0 < (l.length : Int))) = true := by simp; omega
      go_enter Tryz.func55, Tryz.ntmps55
      go_wp2_with fail
      go_ret
      exact ⟨by simp [plainL]; omega, Below.refl _ _⟩
    · obtain ⟨c, W', hcv, hb, hs, hr⟩ := conv_bytes w l
      have HS := Lib.hid hs; clear hs
      have HC := Lib.hid (contains_bytes enters_plain1 (q := fun b => !smallU b) (fun b W => plain1_any b.toNat W) l c _ W' hm hr)
      clear hr
      have hd : (decide (0 < (l.length : Int))) = true := by simp; omega
      go_enter Tryz.func55, Tryz.ntmps55
      go_wp2_with (go_at_call 77; refine (HC.out).mono ?_; rintro e w' ⟨rfl, hb'⟩)
      go_ret
      exact ⟨ret_bool (by rw [any_not]; simp [plainL, h0, h1]), below_then hb hb'⟩
set_option maxRecDepth 100000 in
theorem word_any (l : List UInt8) (w : World) (hm : l.length ≤ 140737488355328) :
    Calls Tryz.prog 104 #[str l] w fun e w' => e = .returned (.bool (wordL l)) ∧ Below w.heap.size w w' := by
  rcases Nat.eq_zero_or_pos l.length with h0 | h0
  · obtain rfl := List.eq_nil_of_length_eq_zero h0
    go_enter Tryz.func104, Tryz.ntmps104
    go_wp2_with fail
    go_ret
    exact ⟨rfl, Below.refl _ _⟩
  · obtain ⟨c, W', hcv, hb, hs, hr⟩ := conv_bytes w l
    have HS := Lib.hid hs; clear hs
    have HC := Lib.hid (contains_bytes enters_word1 (q := fun b => !letU b) (fun b W => word1_any b.toNat W) l c _ W' hm hr)
    clear hr
    have hd : (l == []) = false := by cases l; simp at h0; rfl
    have he : l.isEmpty = false := by cases l; simp at h0; rfl
    have HE := Lib.hid he; clear he
    go_enter Tryz.func104, Tryz.ntmps104
    go_wp2_with (go_at_call 77; refine (HC.out).mono ?_; rintro e w' ⟨rfl, hb'⟩)
    go_ret
    exact ⟨ret_bool (by rw [any_not]; simp [wordL, HE.out]), below_then hb hb'⟩
set_option maxRecDepth 100000 in
theorem proper_any (l : List UInt8) (w : World) (hm : l.length ≤ 140737488355328) :
    Calls Tryz.prog 53 #[str l] w fun e w' => e = .returned (.bool (properL l)) ∧ Below w.heap.size w w' := by
  cases l with
  | nil =>
    go_enter Tryz.func53, Tryz.ntmps53
    go_wp2_with fail
    go_ret
    exact ⟨rfl, Below.refl _ _⟩
  | cons b r =>
    have hm' : r.length ≤ 140737488355328 := by simp at hm; omega
    clear hm
    rcases Nat.lt_or_ge 16 (r.length + 1) with h1 | h1
    · go_enter Tryz.func53, Tryz.ntmps53
      go_wp2_with fail
      go_ret
      exact ⟨by simp [properL]; omega, Below.refl _ _⟩
    · cases hc : capB b.toNat
      · have HC := Lib.hid (fun W => hc ▸ wcapital_any b.toNat W)
        have HH := Lib.hid hc; clear hc
        go_enter Tryz.func53, Tryz.ntmps53
        go_wp2_with (go_at_call 76; refine ((HC.out) _).mono ?_; rintro e w' ⟨rfl, rfl⟩)
        go_ret
        exact ⟨ret_bool (by simp [properL, capU, HH.out]), Below.refl _ _⟩
      · obtain ⟨c, W', hcv, hb, hs, hr⟩ := conv_bytes w r
        have HS := Lib.hid hs; clear hs
        have HK := Lib.hid (contains_bytes enters_proper1 (q := fun b => !smallU b) (fun b W => proper1_any b.toNat W) r c _ W' hm' hr)
        clear hr
        have HC := Lib.hid (fun W => hc ▸ wcapital_any b.toNat W)
        have HH := Lib.hid hc; clear hc
        have hx := tail_ex b r
        go_enter Tryz.func53, Tryz.ntmps53
        go_wp2_with (first | (go_at_call 76; refine ((HC.out) _).mono ?_; rintro e w' ⟨rfl, rfl⟩) | (go_at_call 77; refine (HK.out).mono ?_; rintro e w' ⟨rfl, hb'⟩))
        go_ret
        exact ⟨ret_bool (by rw [any_not]; simp [properL, capU, HH.out]; omega), below_then hb hb'⟩
end Go.Proofs.YtbbgieopcmjoeaaGreatDoor
