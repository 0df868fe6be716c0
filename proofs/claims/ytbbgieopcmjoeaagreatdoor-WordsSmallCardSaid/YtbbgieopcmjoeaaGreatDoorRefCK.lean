/- package lyceumref33: ahead. package lyceumref02: letters. package lyceumref02: Predicate. package lyceumref33: Right. package lyceumref33: clash, Valid. package lyceumref33: Valid. lyceumlaw33.Given, Taken: a lexicon copied entry by entry into a row of the call's own. package lyceumref33: Add. package lyceumref33: Remove, Look. -/
import Derived.Test.YtbbgieopcmjoeaaGreatDoorRefA
import Derived.Test.YtbbgieopcmjoeaaGreatDoorOrder
import Derived.Test.YtbbgieopcmjoeaaGreatDoorTellsP
import Derived.Test.YtbbgieopcmjoeaaGreatDoorRefB
import Derived.Test.YtbbgieopcmjoeaaGreatDoorLawFound
namespace Go.Proofs.YtbbgieopcmjoeaaGreatDoor
open Go.RowKit
theorem cmpB_selfR : ∀ a : List UInt8, Lib.compareBytes a a = 0
  | [] => rfl
  | x :: a => by
    have := cmpB_selfR a
    simp [Lib.compareBytes, this]
theorem less_cmp : ∀ a b : List UInt8, Op.bytesLess a b = decide (Lib.compareBytes a b < 0)
  | [], [] => by simp [Op.bytesLess, Lib.compareBytes]
  | [], b :: r => by simp [Op.bytesLess, Lib.compareBytes]
  | a :: l, [] => by simp [Op.bytesLess, Lib.compareBytes]
  | a :: l, b :: r => by
    have ih := less_cmp l r
    simp only [Op.bytesLess, Lib.compareBytes, ih]
    rcases Nat.lt_trichotomy a.toNat b.toNat with h | h | h
    · have h1 : a < b := h
      simp [h1]
    · obtain rfl : a = b := UInt8.toNat_inj.1 h
      simp
    · have h1 : b < a := h
      have h2 : ¬ a < b := fun h' => Nat.lt_asymm h h'
      have h3 : ¬ a = b := fun h' => by subst h'; exact absurd h (Nat.lt_irrefl _)
      simp [h1, h2, h3]
set_option maxRecDepth 100000 in
theorem rahead_any (a b : Ent) (w : World) : Calls Tryz.prog 50 #[entV a, entV b] w fun e w' => e = .returned (.bool (decide (cmpL a b < 0))) ∧ Below w.heap.size w w' := by
  obtain ⟨ax, ac, ay⟩ := a
  obtain ⟨bx, bc, bY⟩ := b
  have hbox : Hid (∀ W : World, W = (w.alloc (.cells #[str ax, byteV ac, str ay] 46)).alloc (.cells #[str bx, byteV bc, str bY] 46) → Blk W w.heap.size 46 #[str ax, byteV ac, str ay] ∧ Blk W (w.heap.size + 1) 46 #[str bx, byteV bc, str bY] ∧ Below w.heap.size w W) := fun W h => by
    subst h
    exact ⟨(Blk.new _ _ _).alloc _, by have := Blk.new (w.alloc (.cells #[str ax, byteV ac, str ay] 46)) 46 #[str bx, byteV bc, str bY]; simpa using this, ((Below.refl _ _).alloc (Nat.le_refl _) _).alloc (by simp) _⟩
  go_enter Tryz.func50, Tryz.ntmps50
  go_wp2_with fail
  all_goals go_ret
  · rename_i h
    refine ⟨ret_bool ?_, (hbox.out _ rfl).2.2⟩
    have hne : ax ≠ bx := fun e => by subst e; rw [less_cmp] at h; simp [cmpB_selfR] at h
    unfold cmpL
    rw [if_neg (by simpa using hne), ← less_cmp, h]
  · rename_i h1 h2
    subst h2
    refine ⟨ret_bool ?_, (hbox.out _ rfl).2.2⟩
    unfold cmpL
    rw [if_pos (by simp)]
    exact decide_eq_decide.2 (by simp only; omega)
  · rename_i h1 h2
    refine ⟨ret_bool ?_, (hbox.out _ rfl).2.2⟩
    unfold cmpL
    rw [if_neg (by simpa using h2), ← less_cmp]
    simpa using h1
theorem rin_any (b lo hi : Int) (w : World) : Calls Tryz.prog 88 #[.int .u8 b, .int .u8 lo, .int .u8 hi] w fun e w' => e = .returned (.bool (decide (lo ≤ b) && decide (b ≤ hi))) ∧ w = w' := by
  go_enter Tryz.func88, Tryz.ntmps88
  go_wp2_with fail
  all_goals (try go_ret)
  all_goals exact ⟨by simp_all <;> omega, rfl⟩
set_option maxRecDepth 100000 in
theorem rproper_any (l : List UInt8) (w : World) (hm : l.length ≤ 140737488355328) : Calls Tryz.prog 57 #[str l] w fun e w' => e = .returned (.bool (properL l)) ∧ w = w' := by
  rcases Nat.eq_zero_or_pos l.length with h0 | h0
  · obtain rfl : l = [] := List.length_eq_zero_iff.1 h0
    go_enter Tryz.func57, Tryz.ntmps57
    go_wp2_with fail
    go_loop [3] (fun i => i = .int .i64 1) (fun i => 0)
    case atStart => rfl
    case round =>
      obtain rfl := hrel
      go_wp2_with fail
      go_ret
      exact ⟨rfl, rfl⟩
  · obtain ⟨b, r, rfl⟩ : ∃ b r, l = b :: r := by
      cases l with
      | nil => simp at h0
      | cons b r => exact ⟨b, r, rfl⟩
    have hlen : (b :: r).length = r.length + 1 := rfl
    have HLEN := Lib.hid hlen
    have hcb : (b :: r).getD 0 0 = b := rfl
    have hrg : Hid (∀ k, (b :: r).getD (k + 1) 0 = r.getD k 0) := fun k => rfl
    have HC : Hid (∀ h, (ByteArray.mk (b :: r).toArray)[0]'h = b) := fun h => rfl
    have HP : Hid (properL (b :: r) = (decide ((b :: r).length ≤ 16) && (capU b && r.all smallU))) := rfl
    clear hcb
    generalize b :: r = l at *
    go_enter Tryz.func57, Tryz.ntmps57
    go_wp2_with fail
    go_loop [3] (fun i => ∃ k : Nat, k ≤ r.length ∧ i = .int .i64 (k + 1 : Nat) ∧ NoneTo (atB (fun b => !smallU b) r) k) (fun i => l.length - (intOf i).toNat)
    case atStart => exact ⟨0, Nat.zero_le _, rfl, NoneTo.zero _⟩
    case round =>
      obtain ⟨k, hk, rfl, hno⟩ := hrel
      by_cases hlt : k < r.length
      · have hx : atB (fun b => !smallU b) r k = !smallU r[k] := by simp [atB, hlt]
        have hg : r[k] = l.getD (k + 1) 0 := by rw [hrg.out]; simp [hlt]
        rw [hg] at hx
        clear hg
        cases hs : smallB (l.getD (k + 1) 0).toNat
        · have HX : Hid (atB (fun b => !smallU b) r k = true) := by rw [hx]; unfold smallU; rw [hs]; rfl
          have HS := Lib.hid hs; clear hs hx
          go_wp2_with (go_at_call 85; refine (rsmall_any _ _).mono ?_; rintro e w' ⟨rfl, rfl⟩; rw [ba_get, HS.out])
          go_ret
          exact ⟨ret_bool (by
            have : r.all smallU = false := by
              rw [← any_not, ← any_atB, Bool.not_eq_false', anyIdx_iff]
              exact ⟨k, hlt, HX.out⟩
            rw [HP.out, this]; simp), rfl⟩
        · have HX : Hid (atB (fun b => !smallU b) r k = false) := by rw [hx]; unfold smallU; rw [hs]; rfl
          have HS := Lib.hid hs; clear hs hx
          go_wp2_with (go_at_call 85; refine (rsmall_any _ _).mono ?_; rintro e w' ⟨rfl, rfl⟩; rw [ba_get, HS.out])
          go_round
          case rel => exact ⟨k + 1, by omega, by go_num, hno.succ HX.out⟩
          case measure => simp [intOf]; omega
      · obtain rfl : k = r.length := by omega
        have HA : Hid (r.all smallU = true) := by
          rw [← any_not, ← any_atB]
          have : anyIdx (atB (fun b => !smallU b) r) r.length = false := by
            rw [Bool.eq_false_iff, ne_eq, anyIdx_iff]
            rintro ⟨i, hi, hp⟩
            rw [hno i hi] at hp; cases hp
          rw [this]; rfl
        clear hno
        have h1 : decide ((1 : Int) ≤ (l.length : Int)) = true := by rw [decide_eq_true_iff]; omega
        have h0' : (0 : Int) < (l.length : Int) := by omega
        have hq : (((r.length : Int) + 1 < (l.length : Int))) = False := by rw [eq_iff_iff]; constructor <;> intro h <;> first | omega | exact h.elim
        clear hlen
        cases h2 : decide ((l.length : Int) ≤ 16)
        all_goals
          have h2' : decide (l.length ≤ 16) = _ := (decide_eq_decide.2 (by omega : l.length ≤ 16 ↔ (l.length : Int) ≤ 16)).trans h2
          have H2 := Lib.hid h2'; clear h2'
          go_wp2_with (go_at_call 86; refine (rcapital_any _ _).mono ?_; rintro e w' ⟨rfl, rfl⟩)
          go_ret
          exact ⟨ret_bool (by rw [HP.out, HA.out, H2.out]; first | rfl | (rw [HC.out]; simp [capU])), rfl⟩
theorem nl_in (x : Int) : ((decide (48 ≤ x) && decide (x ≤ 57)) || ((decide (65 ≤ x) && decide (x ≤ 90)) || (decide (97 ≤ x) && decide (x ≤ 122)))) = nlB x := by
  unfold nlB smallB capB digB
  rw [Bool.eq_iff_iff]
  simp only [Bool.or_eq_true, Bool.and_eq_true, decide_eq_true_eq]
  omega
def lettersL (l : List UInt8) : Bool := decide (l.length ≤ 16) && match l with | [] => false | _ :: r => r.all fun x => nlB x.toNat
set_option maxRecDepth 100000 in
theorem rletters_any (l : List UInt8) (w : World) (hm : l.length ≤ 140737488355328) : Calls Tryz.prog 87 #[str l, .bool false] w fun e w' => e = .returned (.bool (lettersL l)) ∧ w = w' := by
  rcases Nat.eq_zero_or_pos l.length with h0 | h0
  · obtain rfl : l = [] := List.length_eq_zero_iff.1 h0
    go_enter Tryz.func87, Tryz.ntmps87
    go_wp2_with fail
    go_loop [5] (fun i => i = .int .i64 1) (fun i => 0)
    case atStart => rfl
    case round =>
      obtain rfl := hrel
      go_wp2_with fail
      go_ret
      exact ⟨rfl, rfl⟩
  · obtain ⟨b, r, rfl⟩ : ∃ b r, l = b :: r := by
      cases l with
      | nil => simp at h0
      | cons b r => exact ⟨b, r, rfl⟩
    have hlen : (b :: r).length = r.length + 1 := rfl
    have hrg : Hid (∀ k, (b :: r).getD (k + 1) 0 = r.getD k 0) := fun k => rfl
    have HP : Hid (lettersL (b :: r) = (decide ((b :: r).length ≤ 16) && r.all fun x => nlB x.toNat)) := rfl
    generalize b :: r = l at *
    go_enter Tryz.func87, Tryz.ntmps87
    go_wp2_with fail
    go_loop [5] (fun i => ∃ k : Nat, k ≤ r.length ∧ i = .int .i64 (k + 1 : Nat) ∧ NoneTo (atB (fun b => !nlB b.toNat) r) k) (fun i => l.length - (intOf i).toNat)
    case atStart => exact ⟨0, Nat.zero_le _, rfl, NoneTo.zero _⟩
    case round =>
      obtain ⟨k, hk, rfl, hno⟩ := hrel
      by_cases hlt : k < r.length
      · have hx : atB (fun b => !nlB b.toNat) r k = !nlB r[k].toNat := by simp [atB, hlt]
        have hg : r[k] = l.getD (k + 1) 0 := by rw [hrg.out]; simp [hlt]
        rw [hg, ← nl_in] at hx
        clear hg
        have HX := Lib.hid hx; clear hx
        generalize hX : ((l.getD (k + 1) 0).toNat : Int) = X at HX
        cases d1 : (decide (48 ≤ X) && decide (X ≤ 57)) <;> cases d2 : (decide (65 ≤ X) && decide (X ≤ 90)) <;> cases d3 : (decide (97 ≤ X) && decide (X ≤ 122))
        all_goals
          rw [d1, d2, d3] at HX
          have D1 := Lib.hid d1; have D2 := Lib.hid d2; have D3 := Lib.hid d3
          clear d1 d2 d3
          go_wp2_with (go_at_call 88; refine (rin_any _ _ _ _).mono ?_; rintro e w' ⟨rfl, rfl⟩; rw [ba_get, hX]; first | rw [D1.out] | rw [D2.out] | rw [D3.out])
          first
          | go_round
            case rel => exact ⟨k + 1, by omega, by go_num, hno.succ HX.out⟩
            case measure => simp [intOf]; omega
          | go_ret
            exact ⟨ret_bool (by
              have : (r.all fun x => nlB x.toNat) = false := by
                rw [← any_not, ← any_atB, Bool.not_eq_false', anyIdx_iff]
                exact ⟨k, hlt, HX.out⟩
              rw [HP.out, this]; simp), rfl⟩
      · obtain rfl : k = r.length := by omega
        have HA : Hid ((r.all fun x => nlB x.toNat) = true) := by
          rw [← any_not, ← any_atB]
          have : anyIdx (atB (fun b => !nlB b.toNat) r) r.length = false := by
            rw [Bool.eq_false_iff, ne_eq, anyIdx_iff]
            rintro ⟨i, hi, hp⟩
            rw [hno i hi] at hp; cases hp
          rw [this]; rfl
        clear hno
        have h0' : (0 : Int) < (l.length : Int) := by omega
        have hq : (((r.length : Int) + 1 < (l.length : Int))) = False := by rw [eq_iff_iff]; constructor <;> intro h <;> first | omega | exact h.elim
        clear hlen
        cases h2 : decide ((l.length : Int) ≤ 16)
        all_goals
          have h2' : decide (l.length ≤ 16) = _ := (decide_eq_decide.2 (by omega : l.length ≤ 16 ↔ (l.length : Int) ≤ 16)).trans h2
          have H2 := Lib.hid h2'; clear h2'
          go_wp2_with fail
          go_ret
          exact ⟨ret_bool (by rw [HP.out, HA.out, H2.out]; rfl), rfl⟩
theorem cap_not_word (b : UInt8) (r : List UInt8) (h : capB b.toNat = true) : wordsL.contains (b :: r) = false := by
  have : ∀ n : Nat, n < 256 → 97 ≤ n → b ≠ UInt8.ofNat n := fun n hn h97 e => by
    subst e
    unfold capB at h
    simp [Nat.mod_eq_of_lt hn] at h
    omega
  simp only [wordsL, List.contains_cons, List.contains_nil, Bool.or_false, Bool.or_eq_false_iff, beq_eq_false_iff_ne, ne_eq, List.cons.injEq, not_and]
  refine ⟨fun e => absurd e (this 97 (by omega) (by omega)), fun e => absurd e (this 115 (by omega) (by omega)), fun e => absurd e (this 102 (by omega) (by omega)), fun e => absurd e (this 110 (by omega) (by omega)), fun e => absurd e (this 97 (by omega) (by omega)), fun e => absurd e (this 117 (by omega) (by omega))⟩
set_option maxRecDepth 100000 in
theorem rpredicate_any (l : List UInt8) (w : World) (hm : l.length ≤ 140737488355328) : Calls Tryz.prog 60 #[str l] w fun e w' => e = .returned (.bool (nameL capB nlB l)) ∧ w = w' := by
  cases l with
  | nil =>
    go_enter Tryz.func60, Tryz.ntmps60
    go_wp2_with (go_at_call 87; refine (rletters_any _ _ hm).mono ?_; rintro e w' ⟨rfl, rfl⟩)
    all_goals go_ret
    all_goals exact ⟨rfl, rfl⟩
  | cons b r =>
    have HQ : Hid (nameL capB nlB (b :: r) = (lettersL (b :: r) && (decide (65 ≤ (b.toNat : Int)) && decide ((b.toNat : Int) ≤ 90)))) := Lib.hid (show nameL capB nlB (b :: r) = _ by
      unfold nameL lettersL
      have hcc : capB b.toNat = (decide (65 ≤ (b.toNat : Int)) && decide ((b.toNat : Int) ≤ 90)) := rfl
      rw [← hcc]
      cases hc : capB b.toNat
      · simp [hc]
      · have := cap_not_word b r hc
        simp only [this]
        simp [hc, Nat.lt_iff_add_one_le])
    have hg : ∀ h, (ByteArray.mk (b :: r).toArray)[0]'h = b := fun h => rfl
    cases hs : lettersL (b :: r)
    · have HS := Lib.hid hs; clear hs
      go_enter Tryz.func60, Tryz.ntmps60
      go_wp2_with (go_at_call 87; refine (rletters_any _ _ hm).mono ?_; rintro e w' ⟨rfl, rfl⟩; rw [HS.out])
      go_ret
      exact ⟨ret_bool (by rw [HQ.out, HS.out]; rfl), rfl⟩
    · have HS := Lib.hid hs; clear hs
      go_enter Tryz.func60, Tryz.ntmps60
      go_wp2_with (first | (go_at_call 87; refine (rletters_any _ _ hm).mono ?_; rintro e w' ⟨rfl, rfl⟩; rw [HS.out]) | (go_at_call 88; refine (rin_any _ _ _ _).mono ?_; rintro e w' ⟨rfl, rfl⟩))
      go_ret
      exact ⟨ret_bool (by rw [HQ.out, HS.out]; rfl), rfl⟩
def words5L : List (List UInt8) := [[97, 108, 108], [115, 111, 109, 101], [102, 97, 108, 115, 101], [110, 101, 120, 116], [97, 108, 119, 97, 121, 115]]
theorem fn_cons (b : UInt8) (r : List UInt8) : nameL fnB nlB (b :: r) = (!words5L.contains (b :: r) && (lettersL (b :: r) && (decide (97 ≤ (b.toNat : Int)) && decide ((b.toNat : Int) ≤ 116)))) := by
  have hcc : fnB b.toNat = (decide (97 ≤ (b.toNat : Int)) && decide ((b.toNat : Int) ≤ 116)) := rfl
  rw [← hcc]
  have hu : wordsL.contains (b :: r) = (words5L.contains (b :: r) || ((b :: r) == [117, 110, 116, 105, 108])) := by
    simp only [wordsL, words5L, List.contains_cons, List.contains_nil, Bool.or_false, Bool.or_assoc]
  unfold nameL lettersL
  simp only [hu]
  cases hc : fnB b.toNat
  · simp
  · have hx : ((b :: r) == [117, 110, 116, 105, 108]) = false := by
      cases he : ((b :: r) == [117, 110, 116, 105, 108])
      · rfl
      · have he := beq_iff_eq.1 he
        have hb : b = 117 := (List.cons.inj he).1
        subst hb
        exact absurd hc (by decide)
    rw [hx]
    cases words5L.contains (b :: r) <;> simp [Nat.lt_iff_add_one_le]
set_option maxRecDepth 100000 in
theorem rfunction02_any (l : List UInt8) (w : World) (hm : l.length ≤ 140737488355328) : Calls Tryz.prog 58 #[str l] w fun e w' => e = .returned (.bool (nameL fnB nlB l)) ∧ w = w' := by
  cases l with
  | nil =>
    go_enter Tryz.func58, Tryz.ntmps58
    go_wp2_with (go_at_call 87; refine (rletters_any _ _ hm).mono ?_; rintro e w' ⟨rfl, rfl⟩)
    all_goals go_ret
    all_goals exact ⟨rfl, rfl⟩
  | cons b r =>
    have HQ := Lib.hid (fn_cons b r)
    have hg : ∀ h, (ByteArray.mk (b :: r).toArray)[0]'h = b := fun h => rfl
    have h0 : 0 < (b :: r).length := by simp
    generalize b :: r = l at *
    cases hs : lettersL l
    all_goals
      have HS := Lib.hid hs; clear hs
      go_enter Tryz.func58, Tryz.ntmps58
      go_wp2_with (first | (go_at_call 87; refine (rletters_any _ _ hm).mono ?_; rintro e w' ⟨rfl, rfl⟩; rw [HS.out]) | (go_at_call 88; refine (rin_any _ _ _ _).mono ?_; rintro e w' ⟨rfl, rfl⟩))
      all_goals go_ret
      all_goals exact ⟨ret_bool (by rw [HQ.out, HS.out]; simp_all [words5L]), rfl⟩
theorem right_few {x s : List UInt8} {c : UInt8} (h : c = 1 ∨ c = 2 ∨ c = 4 ∨ c = 5) : rightL (x, c, s) = (plainL x && (!isFn x && nameL capB nlB s)) := by
  rcases h with rfl | rfl | rfl | rfl <;> rfl
theorem right_none {x s : List UInt8} {c : UInt8} (h3 : c ≠ 3) (h : ¬ (c = 1 ∨ c = 2 ∨ c = 4 ∨ c = 5)) : rightL (x, c, s) = false := by
  unfold rightL
  rw [if_neg h3]
  have h1 : c ≠ 1 := fun e => h (.inl e)
  have h2 : c ≠ 2 := fun e => h (.inr (.inl e))
  have h4 : c ≠ 4 := fun e => h (.inr (.inr (.inl e)))
  have h5 : c ≠ 5 := fun e => h (.inr (.inr (.inr e)))
  rw [ne_eq, ← UInt8.toNat_inj] at h1 h2 h3 h4 h5
  simp only [UInt8.reduceToNat] at h1 h2 h3 h4 h5
  have : decide (1 ≤ c) = false ∨ decide (c ≤ 5) = false := by
    rcases Nat.eq_zero_or_pos c.toNat with h0 | h0
    · left; rw [decide_eq_false_iff_not, UInt8.le_iff_toNat_le]; simp; omega
    · right; rw [decide_eq_false_iff_not, UInt8.le_iff_toNat_le]; simp; omega
  rcases this with h | h <;> simp [h]
set_option maxRecDepth 100000 in
set_option maxHeartbeats 800000 in
theorem rright_any (x : List UInt8) (c : UInt8) (s : List UInt8) (w : World) (hm : x.length ≤ 140737488355328) (hs : s.length ≤ 140737488355328) :
    Calls Tryz.prog 25 #[.agg #[str x, byteV c, str s]] w fun e w' => e = .returned (.bool (rightL (x, c, s))) ∧ Below w.heap.size w w' := by
  have hB := (Below.refl w.heap.size w).alloc (Nat.le_refl _) (.cells #[str x, byteV c, str s] 46)
  by_cases h3 : c = 3
  · subst h3
    cases hp : properL x
    all_goals
      have HP := Lib.hid hp; clear hp
      go_enter Tryz.func25, Tryz.ntmps25
      go_wp2_with (first
        | (go_at_call 57; refine (rproper_any _ _ hm).mono ?_; rintro e w1 ⟨rfl, rfl⟩; rw [HP.out])
        | (go_at_call 58; refine (rfunction02_any _ _ hs).mono ?_; rintro e w2 ⟨rfl, rfl⟩))
      go_ret
      exact ⟨ret_bool (by simp [rightL, HP.out]), hB⟩
  · by_cases h15 : c = 1 ∨ c = 2 ∨ c = 4 ∨ c = 5
    · have H15 := Lib.hid (right_few (x := x) (s := s) h15)
      cases hp : plainL x <;> cases hi : isFn x
      all_goals
        have HP := Lib.hid hp; clear hp
        have HI := Lib.hid hi; clear hi
        clear h3
        rcases h15 with rfl | rfl | rfl | rfl
        all_goals
          go_enter Tryz.func25, Tryz.ntmps25
          go_wp2_with (first
            | (go_at_call 59; refine (rplain_any _ _ hm).mono ?_; rintro e w1 ⟨rfl, rfl⟩; rw [HP.out])
            | (go_at_call 36; refine (rfunction_any _ _).mono ?_; rintro e w2 ⟨rfl, rfl⟩; rw [HI.out])
            | (go_at_call 60; refine (rpredicate_any _ _ hs).mono ?_; rintro e w3 ⟨rfl, rfl⟩))
          go_ret
          exact ⟨ret_bool (by rw [H15.out, HP.out, HI.out]; rfl), hB⟩
    · have HN := Lib.hid (right_none (x := x) (s := s) h3 h15)
      have hne : ∀ n : Nat, n < 256 → c ≠ UInt8.ofNat n → ((c.toNat : Int) == (n : Int)) = false := fun n hn h => by
        cases hq : ((c.toNat : Int) == (n : Int))
        · rfl
        · exact absurd ((u8_eq c n hn).1 hq) h
      have c3 : (((c.toNat : Int)) == 3) = false := hne 3 (by omega) h3
      have c1 : (((c.toNat : Int)) == 1) = false := hne 1 (by omega) fun e => h15 (.inl e)
      have c2 : (((c.toNat : Int)) == 2) = false := hne 2 (by omega) fun e => h15 (.inr (.inl e))
      have c4 : (((c.toNat : Int)) == 4) = false := hne 4 (by omega) fun e => h15 (.inr (.inr (.inl e)))
      have c5 : (((c.toNat : Int)) == 5) = false := hne 5 (by omega) fun e => h15 (.inr (.inr (.inr e)))
      clear h3 h15 hne
      go_enter Tryz.func25, Tryz.ntmps25
      go_wp2_with fail
      go_ret
      exact ⟨ret_bool HN.out.symm, hB⟩
theorem u8_bne5 (b : UInt8) : ((b.toNat : Int) != 5) = !(b == 5) := u8_bne b 5 (by omega)
theorem clash_diff {o e : Ent} (h : (o.2.2 == e.2.2) = false) : clashL o e = false := by unfold clashL; rw [h]; rfl
theorem clash_name {o e : Ent} (h : (o.2.1 == 3) = true ∨ (e.2.1 == 3) = true) : clashL o e = false := by
  unfold clashL
  rcases h with h | h <;> rw [h] <;> simp
theorem clash_val {o e : Ent} (h : (o.2.2 == e.2.2) = true) (h1 : (o.2.1 == 3) = false) (h2 : (e.2.1 == 3) = false) : clashL o e = ((o.2.1 == 5) != (e.2.1 == 5)) := by
  unfold clashL; rw [h, h1, h2]; rfl
theorem any_hit {l : List Ent} {e o : Ent} {k : Nat} (hk : k < l.length) (ho : l[k] = o) (h : clashL o e = true) : (l.any fun o => clashL o e) = true := by
  rw [List.any_eq_true]
  exact ⟨l[k], List.getElem_mem hk, by rw [ho]; exact h⟩
theorem any_none {l : List Ent} {e : Ent} (h : NoneTo (fun i => clashL (l.getD i dE) e) l.length) : (l.any fun o => clashL o e) = false := by
  rw [List.any_eq_false]
  intro o ho
  obtain ⟨i, hi, rfl⟩ := List.getElem_of_mem ho
  have := h i hi
  have e1 : l.getD i dE = l[i] := by simp [hi]
  simp only [e1] at this
  simp [this]
set_option maxRecDepth 100000 in
set_option maxHeartbeats 1600000 in
theorem rclash_any (l : List Ent) (e : Ent) (A : Option Addr) (c : Nat) (w : World) (hl : l.length ≤ 1048576) (hr : Reads w w.heap.size 3 A l.length (flat l)) :
    Calls Tryz.prog 51 #[.slice A l.length c, entV e] w fun e' w' => e' = .returned (.bool (l.any fun o => clashL o e)) ∧ Below w.heap.size w w' := by
  have HR := Lib.hid hr; clear hr
  obtain ⟨ex, ec, esy⟩ := e
  have hbox : Hid (∀ W : World, W = w.alloc (.cells #[str ex, byteV ec, str esy] 46) → Blk W w.heap.size 46 #[str ex, byteV ec, str esy] ∧ Below w.heap.size w W) := fun W h => by subst h; exact ⟨Blk.new _ _ _, (Below.refl _ _).alloc (Nat.le_refl _) _⟩
  have e3 := u8_beq3 ec
  have e5 := u8_beq5 ec
  have ne5 := u8_bne5 ec
  go_enter Tryz.func51, Tryz.ntmps51
  go_wp2_with fail
  obtain ⟨W1, hW1⟩ : ∃ W1 : World, W1 = w.alloc (.cells #[str ex, byteV ec, str esy] 46) := ⟨_, rfl⟩
  obtain ⟨hbk, hb1⟩ := hbox.out W1 hW1
  rw [← hW1]
  clear hW1
  go_loopw [5] (fun i wr => ∃ k : Nat, k ≤ l.length ∧ i = .int .i64 k ∧ Below W1.heap.size W1 wr ∧ NoneTo (fun i => clashL (l.getD i dE) (ex, ec, esy)) k) (fun i _ => l.length - (intOf i).toNat)
  case atStart => exact ⟨0, Nat.zero_le _, rfl, Below.refl _ _, NoneTo.zero _⟩
  case round =>
    obtain ⟨k, hk, rfl, hb, hno⟩ := hrel
    by_cases hlt : k < l.length
    · obtain ⟨b, off, rfl, hB, h0, h1, h2⟩ := ((HR.out).below (hb1.trans (hb.mono hb1.size))).ent hlt
      obtain ⟨k0, k1, k2⟩ : wr.cell? ⟨w.heap.size, 0, none⟩ = some (str ex) ∧ wr.cell? ⟨w.heap.size, 1, none⟩ = some (byteV ec) ∧ wr.cell? ⟨w.heap.size, 2, none⟩ = some (str esy) := ⟨(hbk.later hb).cell 0, (hbk.later hb).cell 1, (hbk.later hb).cell 2⟩
      have hE : (fun i => clashL (l.getD i dE) (ex, ec, esy)) k = clashL l[k] (ex, ec, esy) := by simp [hlt]
      have HH := Lib.hid (fun (h : clashL l[k] (ex, ec, esy) = true) => any_hit hlt rfl h)
      generalize l[k] = o at h0 h1 h2 hE HH
      have HE := Lib.hid hE; clear hE
      have HNO := Lib.hid hno; clear hno
      obtain ⟨ox, oc, osy⟩ := o
      have o3 := u8_beq3 oc
      have o5 := u8_beq5 oc
      have no5 := u8_bne5 oc
      cases hs : (osy == esy)
      · have HC := Lib.hid (clash_diff (o := (ox, oc, osy)) (e := (ex, ec, esy)) hs)
        go_wp2_with fail
        go_quiet (fail)
        go_wp2_with fail
        go_roundw
        case rel => exact ⟨k + 1, by omega, by go_num, below_drewN hb _, HNO.out.succ (by rw [HE.out]; exact HC.out)⟩
        case measure => simp [intOf]; omega
      · cases h3 : (oc == 3)
        · cases k3 : (ec == 3)
          · have HC := Lib.hid (clash_val (o := (ox, oc, osy)) (e := (ex, ec, esy)) hs h3 k3)
            cases h5 : (oc == 5) <;> cases k5 : (ec == 5)
            all_goals
              have HQ := HC.out
              simp only [h5, k5] at HQ
              have HQ := Lib.hid HQ
              rw [h3] at o3
              rw [k3] at e3
              rw [h5] at o5 no5
              rw [k5] at e5 ne5
              clear h3 k3 h5 k5
              go_wp2_with fail
              go_quiet (fail)
              go_wp2_with fail
              first
              | go_roundw
                case rel => exact ⟨k + 1, by omega, by go_num, below_drewN hb _, HNO.out.succ (by rw [HE.out]; exact HQ.out)⟩
                case measure => simp [intOf]; omega
              | go_ret
                exact ⟨ret_bool (HH.out HQ.out).symm, hb1.trans ((below_drewN hb _).mono hb1.size)⟩
          · have HC := Lib.hid (clash_name (o := (ox, oc, osy)) (e := (ex, ec, esy)) (.inr k3))
            rw [h3] at o3
            rw [k3] at e3
            clear h3 k3
            go_wp2_with fail
            go_quiet (fail)
            go_wp2_with fail
            go_roundw
            case rel => exact ⟨k + 1, by omega, by go_num, below_drewN hb _, HNO.out.succ (by rw [HE.out]; exact HC.out)⟩
            case measure => simp [intOf]; omega
        · have HC := Lib.hid (clash_name (o := (ox, oc, osy)) (e := (ex, ec, esy)) (.inl h3))
          rw [h3] at o3
          clear h3
          go_wp2_with fail
          go_quiet (fail)
          go_wp2_with fail
          go_roundw
          case rel => exact ⟨k + 1, by omega, by go_num, below_drewN hb _, HNO.out.succ (by rw [HE.out]; exact HC.out)⟩
          case measure => simp [intOf]; omega
    · obtain rfl : k = l.length := by omega
      have HNO := Lib.hid (any_none hno); clear hno
      go_wp2_with fail
      go_ret
      exact ⟨ret_bool HNO.out.symm, hb1.trans (hb.mono hb1.size)⟩
/-- Two entries in one row of memory, read in the middle of a region. -/
abbrev S7 (w W : World) (b o : Nat) (e : Ent) (o' : Nat) (q : Ent) : Prop := W.cell? ⟨b, o, none⟩ = some (str e.1) ∧ W.cell? ⟨b, o + 1, none⟩ = some (byteV e.2.1) ∧ W.cell? ⟨b, o + 2, none⟩ = some (str e.2.2) ∧ b < W.heap.size ∧ Below w.heap.size w W ∧
  W.cell? ⟨b, o', none⟩ = some (str q.1) ∧ W.cell? ⟨b, o' + 1, none⟩ = some (byteV q.2.1) ∧ W.cell? ⟨b, o' + 2, none⟩ = some (str q.2.2)
theorem keep7 {w W W' : World} {b o o' : Nat} {e q : Ent} (h : S7 w W b o e o' q) (hb : Below W.heap.size W W') : S7 w W' b o e o' q := by
  obtain ⟨h0, h1, h2, h3, h4, h5, h6, h7⟩ := h
  exact ⟨(hb.cell (p := ⟨b, o, none⟩) h3).trans h0, (hb.cell (p := ⟨b, o + 1, none⟩) h3).trans h1, (hb.cell (p := ⟨b, o + 2, none⟩) h3).trans h2, Nat.lt_of_lt_of_le h3 hb.size, below_then h4 hb,
    (hb.cell (p := ⟨b, o', none⟩) h3).trans h5, (hb.cell (p := ⟨b, o' + 1, none⟩) h3).trans h6, (hb.cell (p := ⟨b, o' + 2, none⟩) h3).trans h7⟩
theorem start7 {w W : World} {b o o' : Nat} {e q : Ent} (h : S7 w W b o e o' q) : S7 w W.drew b o e o' q := ⟨h.1, h.2.1, h.2.2.1, h.2.2.2.1, h.2.2.2.2.1.drew, h.2.2.2.2.2⟩
theorem rvalid_bad {l : List Ent} {k : Nat} (hk : k < l.length) (h : okRt l k = false) : validL l = false := by
  have : anyIdx (fun i => !okRt l i) l.length = true := by rw [anyIdx_iff]; exact ⟨k, hk, by simp [h]⟩
  rw [rvalid_iff, this]; simp
theorem rvalid_end {l : List Ent} (h : NoneTo (fun i => !okRt l i) l.length) : validL l = decide ((l.length : Int) ≤ 100) := by
  have : anyIdx (fun i => !okRt l i) l.length = false := by
    rw [Bool.eq_false_iff, ne_eq, anyIdx_iff]
    rintro ⟨i, hi, hp⟩
    have hq := h i hi
    simp only at hq
    rw [hq] at hp; cases hp
  rw [rvalid_iff, this, Bool.not_false, Bool.and_true]
  exact decide_eq_decide.2 (by omega)
theorem okR_right {l : List Ent} {k : Nat} {e : Ent} (h : rightL e = false) : okR l k e = false := by unfold okR; rw [h]; rfl
theorem okR_zero {l : List Ent} {e : Ent} (h : rightL e = true) : okR l 0 e = !(l.any fun o => clashL o e) := by unfold okR; rw [h]; simp
theorem okR_ahead {l : List Ent} {j : Nat} {e q : Ent} (h : rightL e = true) (hq : l.getD j dE = q) (hc : ¬ cmpL q e < 0) : okR l (j + 1) e = false := by
  unfold okR; rw [h, Nat.add_sub_cancel, hq, decide_eq_false hc]; simp
theorem okR_succ {l : List Ent} {j : Nat} {e q : Ent} (h : rightL e = true) (hq : l.getD j dE = q) (hc : cmpL q e < 0) : okR l (j + 1) e = !(l.any fun o => clashL o e) := by
  unfold okR; rw [h, Nat.add_sub_cancel, hq, decide_eq_true hc]; simp
set_option maxRecDepth 100000 in
set_option maxHeartbeats 1600000 in
theorem rvalid_any (l : List Ent) (A : Option Addr) (c : Nat) (w : World) (hl : l.length ≤ 1048576) (hw : ∀ e ∈ l, e.1.length ≤ 1048576 ∧ e.2.2.length ≤ 1048576) (hr : Reads w w.heap.size 3 A l.length (flat l)) :
    Calls Tryz.prog 23 #[.slice A l.length c] w fun e' w' => e' = .returned (.bool (validL l)) ∧ Below w.heap.size w w' := by
  have HR := Lib.hid hr; clear hr
  have HW := Lib.hid hw; clear hw
  go_enter Tryz.func23, Tryz.ntmps23
  go_wp2_with fail
  go_loopw [3] (fun i wr => ∃ k : Nat, k ≤ l.length ∧ i = .int .i64 k ∧ Below w.heap.size w wr ∧ NoneTo (fun i => !okRt l i) k) (fun i _ => l.length - (intOf i).toNat)
  case atStart => exact ⟨0, Nat.zero_le _, rfl, Below.refl _ _, NoneTo.zero _⟩
  case round =>
    obtain ⟨k, hk, rfl, hb, hno⟩ := hrel
    by_cases hlt : k < l.length
    · obtain ⟨b, off, rfl, hB, h0, h1, h2⟩ := ((HR.out).below hb).ent hlt
      have hxl : (l[k]).1.length ≤ 140737488355328 := by have := (HW.out _ (List.getElem_mem hlt)).1; omega
      have hyl : (l[k]).2.2.length ≤ 140737488355328 := by have := (HW.out _ (List.getElem_mem hlt)).2; omega
      have hbs := hb.size
      generalize hE : l[k] = e at h0 h1 h2 hxl hyl
      have HE := Lib.hid hE; clear hE
      have HNO := Lib.hid hno; clear hno
      obtain ⟨ex, ec, esy⟩ := e
      cases hrt : rightL (ex, ec, esy)
      · have HRT := Lib.hid hrt; clear hrt
        have hS : S7 w wr b (off + k * 3) (ex, ec, esy) (off + k * 3) (ex, ec, esy) := ⟨h0, h1, h2, by omega, hb, h0, h1, h2⟩
        go_wp2_with fail
        refine wp_region_held_drew (S := fun W => S7 w W b (off + k * 3) (ex, ec, esy) (off + k * 3) (ex, ec, esy)) (by kernel_rfl) (by exact start7 hS) (fun hHeld => ?_)
        refine wpAnyH_take (i := 0) (oi := { dst := some 10, op := Op.move (Operand.tmp 0), type := 42, pos := "ref.go:92", after := #[], guard := none }) (v := ?v1_0) (by kernel_rfl) (by kernel_rfl) (by kernel_rfl) (by kernel_rfl) (fun _ _ _ h => h) (Or.inl ⟨by kernel_rfl, ?h1_0⟩) hHeld ?r1_0
        case h1_0 => (intro w hSw; (try dsimp only at hSw); go_simp; try with_reducible rfl)
        try simp only [Act.put, List.setIfInBounds_toArray, List.set_cons_zero, List.set_cons_succ]
        refine wpAnyH_take (i := 1) (oi := { dst := some 11, op := Op.move (Operand.tmp 3), type := 3, pos := "ref.go:92", after := #[], guard := none }) (v := ?v1_1) (by kernel_rfl) (by kernel_rfl) (by kernel_rfl) (by kernel_rfl) (fun _ _ _ h => h) (Or.inl ⟨by kernel_rfl, ?h1_1⟩) hHeld ?r1_1
        case h1_1 => (intro w hSw; (try dsimp only at hSw); go_simp; try with_reducible rfl)
        try simp only [Act.put, List.setIfInBounds_toArray, List.set_cons_zero, List.set_cons_succ]
        refine wpAnyH_take (i := 2) (oi := { dst := some 12, op := Op.indexAddr 42 (Operand.tmp 10) (Operand.tmp 11), type := 0, pos := "ref.go:92", after := #[{ on := 0, ground := Ground.data }, { on := 1, ground := Ground.data }], guard := none }) (v := ?v1_2) (by kernel_rfl) (by kernel_rfl) (by kernel_rfl) (by kernel_rfl) (fun _ _ _ h => h) (Or.inl ⟨by kernel_rfl, ?h1_2⟩) hHeld ?r1_2
        case h1_2 => (intro w hSw; (try dsimp only at hSw); go_simp; try with_reducible rfl)
        try simp only [Act.put, List.setIfInBounds_toArray, List.set_cons_zero, List.set_cons_succ]
        refine wpAnyH_take (i := 3) (oi := { dst := some 13, op := Op.load 46 (Operand.tmp 12), type := 46, pos := "ref.go:92", after := #[{ on := 2, ground := Ground.data }], guard := none }) (v := ?v1_3) (by kernel_rfl) (by kernel_rfl) (by kernel_rfl) (by kernel_rfl) (fun _ _ _ h => h) (Or.inl ⟨by kernel_rfl, ?h1_3⟩) hHeld ?r1_3
        case h1_3 => (intro w hSw; (try dsimp only at hSw); go_simp; try with_reducible rfl)
        try simp only [Act.put, List.setIfInBounds_toArray, List.set_cons_zero, List.set_cons_succ]
        refine wpAnyH_ready (rs := [4]) (by kernel_rfl) (by simp) ?_
        refine AllReadyH.cons (i := 4) (o := { dst := some 14, op := Op.call { callee := Callee.value (Operand.func 25), args := #[Operand.tmp 13], argTypes := #[46] }, type := 4, pos := "ref.go:92", after := #[{ on := 3, ground := Ground.data }], guard := none }) rfl (fun K hK => ?_) AllReadyH.nil
        go_simp
        refine (rright_any _ _ _ _ hxl hyl).mono ?_
        rintro e' w1 ⟨rfl, hb1⟩
        rw [HRT.out]
        go_wp2_with fail
        refine hK.out _ _ (by exact keep7 (by assumption) (by assumption)) (fun hHeld => ?_)
        clear hK K
        try simp only [Act.put, List.setIfInBounds_toArray, List.set_cons_zero, List.set_cons_succ]
        refine wpAnyH_take (i := 5) (oi := { dst := some 15, op := Op.unOp UnOp.not 4 (Operand.tmp 14), type := 4, pos := "ref.go:92", after := #[{ on := 4, ground := Ground.data }], guard := none }) (v := ?v1_5) (by kernel_rfl) (by kernel_rfl) (by kernel_rfl) (by kernel_rfl) (fun _ _ _ h => h) (Or.inl ⟨by kernel_rfl, ?h1_5⟩) hHeld ?r1_5
        case h1_5 => (intro w hSw; (try dsimp only at hSw); go_simp; try with_reducible rfl)
        try simp only [Act.put, List.setIfInBounds_toArray, List.set_cons_zero, List.set_cons_succ]
        refine wpAnyH_take (i := 6) (oi := { dst := some 16, op := Op.move (Operand.tmp 15), type := 4, pos := "ref.go:92", after := #[{ on := 5, ground := Ground.data }, { on := 4, ground := Ground.chain }], guard := none }) (v := ?v1_6) (by kernel_rfl) (by kernel_rfl) (by kernel_rfl) (by kernel_rfl) (fun _ _ _ h => h) (Or.inl ⟨by kernel_rfl, ?h1_6⟩) hHeld ?r1_6
        case h1_6 => (intro w hSw; (try dsimp only at hSw); go_simp; try with_reducible rfl)
        try simp only [Act.put, List.setIfInBounds_toArray, List.set_cons_zero, List.set_cons_succ]
        refine wpAnyH_take (i := 7) (oi := { dst := some 17, op := Op.move (Operand.tmp 3), type := 3, pos := "ref.go:92", after := #[{ on := 6, ground := Ground.guard }], guard := some (6, false) }) (v := undef) (by kernel_rfl) (by kernel_rfl) (by kernel_rfl) (by kernel_rfl) (fun _ _ _ h => h) (Or.inr ⟨by kernel_rfl, rfl⟩) hHeld ?_
        try simp only [Act.put, List.setIfInBounds_toArray, List.set_cons_zero, List.set_cons_succ]
        refine wpAnyH_take (i := 8) (oi := { dst := some 18, op := Op.binOp BinOp.gtr 3 (Operand.tmp 17) (Operand.const (Value.int IntKind.i64 0)) 3, type := 4, pos := "ref.go:92", after := #[{ on := 7, ground := Ground.data }, { on := 6, ground := Ground.guard }], guard := some (6, false) }) (v := undef) (by kernel_rfl) (by kernel_rfl) (by kernel_rfl) (by kernel_rfl) (fun _ _ _ h => h) (Or.inr ⟨by kernel_rfl, rfl⟩) hHeld ?_
        try simp only [Act.put, List.setIfInBounds_toArray, List.set_cons_zero, List.set_cons_succ]
        refine wpAnyH_take (i := 9) (oi := { dst := some 19, op := Op.move (Operand.tmp 18), type := 4, pos := "ref.go:92", after := #[{ on := 8, ground := Ground.data }, { on := 6, ground := Ground.chain }, { on := 6, ground := Ground.guard }], guard := some (6, false) }) (v := undef) (by kernel_rfl) (by kernel_rfl) (by kernel_rfl) (by kernel_rfl) (fun _ _ _ h => h) (Or.inr ⟨by kernel_rfl, rfl⟩) hHeld ?_
        try simp only [Act.put, List.setIfInBounds_toArray, List.set_cons_zero, List.set_cons_succ]
        refine wpAnyH_take (i := 10) (oi := { dst := some 20, op := Op.move (Operand.tmp 0), type := 42, pos := "ref.go:92", after := #[{ on := 9, ground := Ground.guard }], guard := some (9, true) }) (v := undef) (by kernel_rfl) (by kernel_rfl) (by kernel_rfl) (by kernel_rfl) (fun _ _ _ h => h) (Or.inr ⟨by kernel_rfl, rfl⟩) hHeld ?_
        try simp only [Act.put, List.setIfInBounds_toArray, List.set_cons_zero, List.set_cons_succ]
        refine wpAnyH_take (i := 11) (oi := { dst := some 21, op := Op.move (Operand.tmp 3), type := 3, pos := "ref.go:92", after := #[{ on := 9, ground := Ground.guard }], guard := some (9, true) }) (v := undef) (by kernel_rfl) (by kernel_rfl) (by kernel_rfl) (by kernel_rfl) (fun _ _ _ h => h) (Or.inr ⟨by kernel_rfl, rfl⟩) hHeld ?_
        try simp only [Act.put, List.setIfInBounds_toArray, List.set_cons_zero, List.set_cons_succ]
        refine wpAnyH_take (i := 12) (oi := { dst := some 22, op := Op.binOp BinOp.sub 3 (Operand.tmp 21) (Operand.const (Value.int IntKind.i64 1)) 3, type := 3, pos := "ref.go:92", after := #[{ on := 11, ground := Ground.data }, { on := 9, ground := Ground.guard }], guard := some (9, true) }) (v := undef) (by kernel_rfl) (by kernel_rfl) (by kernel_rfl) (by kernel_rfl) (fun _ _ _ h => h) (Or.inr ⟨by kernel_rfl, rfl⟩) hHeld ?_
        try simp only [Act.put, List.setIfInBounds_toArray, List.set_cons_zero, List.set_cons_succ]
        refine wpAnyH_take (i := 13) (oi := { dst := some 23, op := Op.indexAddr 42 (Operand.tmp 20) (Operand.tmp 22), type := 0, pos := "ref.go:92", after := #[{ on := 10, ground := Ground.data }, { on := 12, ground := Ground.data }, { on := 9, ground := Ground.guard }], guard := some (9, true) }) (v := undef) (by kernel_rfl) (by kernel_rfl) (by kernel_rfl) (by kernel_rfl) (fun _ _ _ h => h) (Or.inr ⟨by kernel_rfl, rfl⟩) hHeld ?_
        try simp only [Act.put, List.setIfInBounds_toArray, List.set_cons_zero, List.set_cons_succ]
        refine wpAnyH_take (i := 14) (oi := { dst := some 24, op := Op.load 46 (Operand.tmp 23), type := 46, pos := "ref.go:92", after := #[{ on := 13, ground := Ground.data }, { on := 9, ground := Ground.guard }], guard := some (9, true) }) (v := undef) (by kernel_rfl) (by kernel_rfl) (by kernel_rfl) (by kernel_rfl) (fun _ _ _ h => h) (Or.inr ⟨by kernel_rfl, rfl⟩) hHeld ?_
        try simp only [Act.put, List.setIfInBounds_toArray, List.set_cons_zero, List.set_cons_succ]
        refine wpAnyH_take (i := 15) (oi := { dst := some 25, op := Op.move (Operand.tmp 0), type := 42, pos := "ref.go:92", after := #[{ on := 9, ground := Ground.guard }], guard := some (9, true) }) (v := undef) (by kernel_rfl) (by kernel_rfl) (by kernel_rfl) (by kernel_rfl) (fun _ _ _ h => h) (Or.inr ⟨by kernel_rfl, rfl⟩) hHeld ?_
        try simp only [Act.put, List.setIfInBounds_toArray, List.set_cons_zero, List.set_cons_succ]
        refine wpAnyH_take (i := 16) (oi := { dst := some 26, op := Op.move (Operand.tmp 3), type := 3, pos := "ref.go:92", after := #[{ on := 9, ground := Ground.guard }], guard := some (9, true) }) (v := undef) (by kernel_rfl) (by kernel_rfl) (by kernel_rfl) (by kernel_rfl) (fun _ _ _ h => h) (Or.inr ⟨by kernel_rfl, rfl⟩) hHeld ?_
        try simp only [Act.put, List.setIfInBounds_toArray, List.set_cons_zero, List.set_cons_succ]
        refine wpAnyH_take (i := 17) (oi := { dst := some 27, op := Op.indexAddr 42 (Operand.tmp 25) (Operand.tmp 26), type := 0, pos := "ref.go:92", after := #[{ on := 15, ground := Ground.data }, { on := 16, ground := Ground.data }, { on := 9, ground := Ground.guard }], guard := some (9, true) }) (v := undef) (by kernel_rfl) (by kernel_rfl) (by kernel_rfl) (by kernel_rfl) (fun _ _ _ h => h) (Or.inr ⟨by kernel_rfl, rfl⟩) hHeld ?_
        try simp only [Act.put, List.setIfInBounds_toArray, List.set_cons_zero, List.set_cons_succ]
        refine wpAnyH_take (i := 18) (oi := { dst := some 28, op := Op.load 46 (Operand.tmp 27), type := 46, pos := "ref.go:92", after := #[{ on := 17, ground := Ground.data }, { on := 9, ground := Ground.guard }], guard := some (9, true) }) (v := undef) (by kernel_rfl) (by kernel_rfl) (by kernel_rfl) (by kernel_rfl) (fun _ _ _ h => h) (Or.inr ⟨by kernel_rfl, rfl⟩) hHeld ?_
        try simp only [Act.put, List.setIfInBounds_toArray, List.set_cons_zero, List.set_cons_succ]
        refine wpAnyH_take (i := 19) (oi := { dst := some 29, op := Op.call { callee := Callee.value (Operand.func 50), args := #[Operand.tmp 24, Operand.tmp 28], argTypes := #[46, 46] }, type := 4, pos := "ref.go:92", after := #[{ on := 14, ground := Ground.data }, { on := 18, ground := Ground.data }, { on := 9, ground := Ground.chain }, { on := 9, ground := Ground.guard }], guard := some (9, true) }) (v := undef) (by kernel_rfl) (by kernel_rfl) (by kernel_rfl) (by kernel_rfl) (fun _ _ _ h => h) (Or.inr ⟨by kernel_rfl, rfl⟩) hHeld ?_
        try simp only [Act.put, List.setIfInBounds_toArray, List.set_cons_zero, List.set_cons_succ]
        refine wpAnyH_take (i := 20) (oi := { dst := some 30, op := Op.unOp UnOp.not 4 (Operand.tmp 29), type := 4, pos := "ref.go:92", after := #[{ on := 19, ground := Ground.data }, { on := 9, ground := Ground.guard }], guard := some (9, true) }) (v := undef) (by kernel_rfl) (by kernel_rfl) (by kernel_rfl) (by kernel_rfl) (fun _ _ _ h => h) (Or.inr ⟨by kernel_rfl, rfl⟩) hHeld ?_
        try simp only [Act.put, List.setIfInBounds_toArray, List.set_cons_zero, List.set_cons_succ]
        refine wpAnyH_take (i := 21) (oi := { dst := some 31, op := Op.pick (Operand.tmp 19) (Operand.tmp 30) (Operand.const (Value.bool false)), type := 4, pos := "ref.go:92", after := #[{ on := 9, ground := Ground.data }, { on := 20, ground := Ground.data }, { on := 6, ground := Ground.guard }], guard := some (6, false) }) (v := undef) (by kernel_rfl) (by kernel_rfl) (by kernel_rfl) (by kernel_rfl) (fun _ _ _ h => h) (Or.inr ⟨by kernel_rfl, rfl⟩) hHeld ?_
        try simp only [Act.put, List.setIfInBounds_toArray, List.set_cons_zero, List.set_cons_succ]
        refine wpAnyH_take (i := 22) (oi := { dst := some 32, op := Op.pick (Operand.tmp 16) (Operand.const (Value.bool true)) (Operand.tmp 31), type := 4, pos := "ref.go:92", after := #[{ on := 6, ground := Ground.data }, { on := 21, ground := Ground.data }], guard := none }) (v := ?v1_22) (by kernel_rfl) (by kernel_rfl) (by kernel_rfl) (by kernel_rfl) (fun _ _ _ h => h) (Or.inl ⟨by kernel_rfl, ?h1_22⟩) hHeld ?r1_22
        case h1_22 => (intro w hSw; (try dsimp only at hSw); go_simp; try with_reducible rfl)
        try simp only [Act.put, List.setIfInBounds_toArray, List.set_cons_zero, List.set_cons_succ]
        refine wpAnyH_take (i := 23) (oi := { dst := some 33, op := Op.move (Operand.tmp 32), type := 4, pos := "ref.go:92", after := #[{ on := 22, ground := Ground.data }, { on := 19, ground := Ground.chain }], guard := none }) (v := ?v1_23) (by kernel_rfl) (by kernel_rfl) (by kernel_rfl) (by kernel_rfl) (fun _ _ _ h => h) (Or.inl ⟨by kernel_rfl, ?h1_23⟩) hHeld ?r1_23
        case h1_23 => (intro w hSw; (try dsimp only at hSw); go_simp; try with_reducible rfl)
        try simp only [Act.put, List.setIfInBounds_toArray, List.set_cons_zero, List.set_cons_succ]
        refine wpAnyH_take (i := 24) (oi := { dst := some 34, op := Op.move (Operand.tmp 0), type := 42, pos := "ref.go:92", after := #[{ on := 23, ground := Ground.guard }], guard := some (23, false) }) (v := undef) (by kernel_rfl) (by kernel_rfl) (by kernel_rfl) (by kernel_rfl) (fun _ _ _ h => h) (Or.inr ⟨by kernel_rfl, rfl⟩) hHeld ?_
        try simp only [Act.put, List.setIfInBounds_toArray, List.set_cons_zero, List.set_cons_succ]
        refine wpAnyH_take (i := 25) (oi := { dst := some 35, op := Op.move (Operand.tmp 0), type := 42, pos := "ref.go:92", after := #[{ on := 23, ground := Ground.guard }], guard := some (23, false) }) (v := undef) (by kernel_rfl) (by kernel_rfl) (by kernel_rfl) (by kernel_rfl) (fun _ _ _ h => h) (Or.inr ⟨by kernel_rfl, rfl⟩) hHeld ?_
        try simp only [Act.put, List.setIfInBounds_toArray, List.set_cons_zero, List.set_cons_succ]
        refine wpAnyH_take (i := 26) (oi := { dst := some 36, op := Op.move (Operand.tmp 3), type := 3, pos := "ref.go:92", after := #[{ on := 23, ground := Ground.guard }], guard := some (23, false) }) (v := undef) (by kernel_rfl) (by kernel_rfl) (by kernel_rfl) (by kernel_rfl) (fun _ _ _ h => h) (Or.inr ⟨by kernel_rfl, rfl⟩) hHeld ?_
        try simp only [Act.put, List.setIfInBounds_toArray, List.set_cons_zero, List.set_cons_succ]
        refine wpAnyH_take (i := 27) (oi := { dst := some 37, op := Op.indexAddr 42 (Operand.tmp 35) (Operand.tmp 36), type := 0, pos := "ref.go:92", after := #[{ on := 25, ground := Ground.data }, { on := 26, ground := Ground.data }, { on := 23, ground := Ground.guard }], guard := some (23, false) }) (v := undef) (by kernel_rfl) (by kernel_rfl) (by kernel_rfl) (by kernel_rfl) (fun _ _ _ h => h) (Or.inr ⟨by kernel_rfl, rfl⟩) hHeld ?_
        try simp only [Act.put, List.setIfInBounds_toArray, List.set_cons_zero, List.set_cons_succ]
        refine wpAnyH_take (i := 28) (oi := { dst := some 38, op := Op.load 46 (Operand.tmp 37), type := 46, pos := "ref.go:92", after := #[{ on := 27, ground := Ground.data }, { on := 23, ground := Ground.guard }], guard := some (23, false) }) (v := undef) (by kernel_rfl) (by kernel_rfl) (by kernel_rfl) (by kernel_rfl) (fun _ _ _ h => h) (Or.inr ⟨by kernel_rfl, rfl⟩) hHeld ?_
        try simp only [Act.put, List.setIfInBounds_toArray, List.set_cons_zero, List.set_cons_succ]
        refine wpAnyH_take (i := 29) (oi := { dst := some 39, op := Op.call { callee := Callee.value (Operand.func 51), args := #[Operand.tmp 34, Operand.tmp 38], argTypes := #[42, 46] }, type := 4, pos := "ref.go:92", after := #[{ on := 24, ground := Ground.data }, { on := 28, ground := Ground.data }, { on := 23, ground := Ground.chain }, { on := 23, ground := Ground.guard }], guard := some (23, false) }) (v := undef) (by kernel_rfl) (by kernel_rfl) (by kernel_rfl) (by kernel_rfl) (fun _ _ _ h => h) (Or.inr ⟨by kernel_rfl, rfl⟩) hHeld ?_
        try simp only [Act.put, List.setIfInBounds_toArray, List.set_cons_zero, List.set_cons_succ]
        refine wpAnyH_take (i := 30) (oi := { dst := some 40, op := Op.pick (Operand.tmp 33) (Operand.const (Value.bool true)) (Operand.tmp 39), type := 4, pos := "ref.go:92", after := #[{ on := 23, ground := Ground.data }, { on := 29, ground := Ground.data }], guard := none }) (v := ?v1_30) (by kernel_rfl) (by kernel_rfl) (by kernel_rfl) (by kernel_rfl) (fun _ _ _ h => h) (Or.inl ⟨by kernel_rfl, ?h1_30⟩) hHeld ?r1_30
        case h1_30 => (intro w hSw; (try dsimp only at hSw); go_simp; try with_reducible rfl)
        try simp only [Act.put, List.setIfInBounds_toArray, List.set_cons_zero, List.set_cons_succ]
        refine wpAnyH_done (by kernel_rfl) ?_ _
        all_goals go_wp2_with fail
        go_ret
        exact ⟨ret_bool (rvalid_bad hlt (by rw [okRt_eq hlt HE.out]; exact okR_right HRT.out)).symm, hHeld.2.2.2.2.1⟩
      · have HRT := Lib.hid hrt; clear hrt
        rcases Nat.eq_zero_or_pos k with rfl | hpos
        · simp only [Nat.zero_mul, Nat.add_zero] at h0 h1 h2
          have hS : S7 w wr b (off) (ex, ec, esy) (off) (ex, ec, esy) := ⟨h0, h1, h2, by omega, hb, h0, h1, h2⟩
          have HOK := Lib.hid (okR_zero (l := l) HRT.out)
          cases hany : (l.any fun o => clashL o (ex, ec, esy))
          · have HK := Lib.hid hany; clear hany
            go_wp2_with fail
            refine wp_region_held_drew (S := fun W => S7 w W b (off) (ex, ec, esy) (off) (ex, ec, esy)) (by kernel_rfl) (by exact start7 hS) (fun hHeld => ?_)
            refine wpAnyH_take (i := 0) (oi := { dst := some 10, op := Op.move (Operand.tmp 0), type := 42, pos := "ref.go:92", after := #[], guard := none }) (v := ?v2_0) (by kernel_rfl) (by kernel_rfl) (by kernel_rfl) (by kernel_rfl) (fun _ _ _ h => h) (Or.inl ⟨by kernel_rfl, ?h2_0⟩) hHeld ?r2_0
            case h2_0 => (intro w hSw; (try dsimp only at hSw); go_simp; try with_reducible rfl)
            try simp only [Act.put, List.setIfInBounds_toArray, List.set_cons_zero, List.set_cons_succ]
            refine wpAnyH_take (i := 1) (oi := { dst := some 11, op := Op.move (Operand.tmp 3), type := 3, pos := "ref.go:92", after := #[], guard := none }) (v := ?v2_1) (by kernel_rfl) (by kernel_rfl) (by kernel_rfl) (by kernel_rfl) (fun _ _ _ h => h) (Or.inl ⟨by kernel_rfl, ?h2_1⟩) hHeld ?r2_1
            case h2_1 => (intro w hSw; (try dsimp only at hSw); go_simp; try with_reducible rfl)
            try simp only [Act.put, List.setIfInBounds_toArray, List.set_cons_zero, List.set_cons_succ]
            refine wpAnyH_take (i := 2) (oi := { dst := some 12, op := Op.indexAddr 42 (Operand.tmp 10) (Operand.tmp 11), type := 0, pos := "ref.go:92", after := #[{ on := 0, ground := Ground.data }, { on := 1, ground := Ground.data }], guard := none }) (v := ?v2_2) (by kernel_rfl) (by kernel_rfl) (by kernel_rfl) (by kernel_rfl) (fun _ _ _ h => h) (Or.inl ⟨by kernel_rfl, ?h2_2⟩) hHeld ?r2_2
            case h2_2 => (intro w hSw; (try dsimp only at hSw); go_simp; try with_reducible rfl)
            try simp only [Act.put, List.setIfInBounds_toArray, List.set_cons_zero, List.set_cons_succ]
            refine wpAnyH_take (i := 3) (oi := { dst := some 13, op := Op.load 46 (Operand.tmp 12), type := 46, pos := "ref.go:92", after := #[{ on := 2, ground := Ground.data }], guard := none }) (v := ?v2_3) (by kernel_rfl) (by kernel_rfl) (by kernel_rfl) (by kernel_rfl) (fun _ _ _ h => h) (Or.inl ⟨by kernel_rfl, ?h2_3⟩) hHeld ?r2_3
            case h2_3 => (intro w hSw; (try dsimp only at hSw); go_simp; try with_reducible rfl)
            try simp only [Act.put, List.setIfInBounds_toArray, List.set_cons_zero, List.set_cons_succ]
            refine wpAnyH_ready (rs := [4]) (by kernel_rfl) (by simp) ?_
            refine AllReadyH.cons (i := 4) (o := { dst := some 14, op := Op.call { callee := Callee.value (Operand.func 25), args := #[Operand.tmp 13], argTypes := #[46] }, type := 4, pos := "ref.go:92", after := #[{ on := 3, ground := Ground.data }], guard := none }) rfl (fun K hK => ?_) AllReadyH.nil
            go_simp
            refine (rright_any _ _ _ _ hxl hyl).mono ?_
            rintro e' w1 ⟨rfl, hb1⟩
            rw [HRT.out]
            go_wp2_with fail
            refine hK.out _ _ (by exact keep7 (by assumption) (by assumption)) (fun hHeld => ?_)
            clear hK K
            try simp only [Act.put, List.setIfInBounds_toArray, List.set_cons_zero, List.set_cons_succ]
            refine wpAnyH_take (i := 5) (oi := { dst := some 15, op := Op.unOp UnOp.not 4 (Operand.tmp 14), type := 4, pos := "ref.go:92", after := #[{ on := 4, ground := Ground.data }], guard := none }) (v := ?v2_5) (by kernel_rfl) (by kernel_rfl) (by kernel_rfl) (by kernel_rfl) (fun _ _ _ h => h) (Or.inl ⟨by kernel_rfl, ?h2_5⟩) hHeld ?r2_5
            case h2_5 => (intro w hSw; (try dsimp only at hSw); go_simp; try with_reducible rfl)
            try simp only [Act.put, List.setIfInBounds_toArray, List.set_cons_zero, List.set_cons_succ]
            refine wpAnyH_take (i := 6) (oi := { dst := some 16, op := Op.move (Operand.tmp 15), type := 4, pos := "ref.go:92", after := #[{ on := 5, ground := Ground.data }, { on := 4, ground := Ground.chain }], guard := none }) (v := ?v2_6) (by kernel_rfl) (by kernel_rfl) (by kernel_rfl) (by kernel_rfl) (fun _ _ _ h => h) (Or.inl ⟨by kernel_rfl, ?h2_6⟩) hHeld ?r2_6
            case h2_6 => (intro w hSw; (try dsimp only at hSw); go_simp; try with_reducible rfl)
            try simp only [Act.put, List.setIfInBounds_toArray, List.set_cons_zero, List.set_cons_succ]
            refine wpAnyH_take (i := 7) (oi := { dst := some 17, op := Op.move (Operand.tmp 3), type := 3, pos := "ref.go:92", after := #[{ on := 6, ground := Ground.guard }], guard := some (6, false) }) (v := ?v2_7) (by kernel_rfl) (by kernel_rfl) (by kernel_rfl) (by kernel_rfl) (fun _ _ _ h => h) (Or.inl ⟨by kernel_rfl, ?h2_7⟩) hHeld ?r2_7
            case h2_7 => (intro w hSw; (try dsimp only at hSw); go_simp; try with_reducible rfl)
            try simp only [Act.put, List.setIfInBounds_toArray, List.set_cons_zero, List.set_cons_succ]
            refine wpAnyH_take (i := 8) (oi := { dst := some 18, op := Op.binOp BinOp.gtr 3 (Operand.tmp 17) (Operand.const (Value.int IntKind.i64 0)) 3, type := 4, pos := "ref.go:92", after := #[{ on := 7, ground := Ground.data }, { on := 6, ground := Ground.guard }], guard := some (6, false) }) (v := ?v2_8) (by kernel_rfl) (by kernel_rfl) (by kernel_rfl) (by kernel_rfl) (fun _ _ _ h => h) (Or.inl ⟨by kernel_rfl, ?h2_8⟩) hHeld ?r2_8
            case h2_8 => (intro w hSw; (try dsimp only at hSw); go_simp; try with_reducible rfl)
            try simp only [Act.put, List.setIfInBounds_toArray, List.set_cons_zero, List.set_cons_succ]
            refine wpAnyH_take (i := 9) (oi := { dst := some 19, op := Op.move (Operand.tmp 18), type := 4, pos := "ref.go:92", after := #[{ on := 8, ground := Ground.data }, { on := 6, ground := Ground.chain }, { on := 6, ground := Ground.guard }], guard := some (6, false) }) (v := ?v2_9) (by kernel_rfl) (by kernel_rfl) (by kernel_rfl) (by kernel_rfl) (fun _ _ _ h => h) (Or.inl ⟨by kernel_rfl, ?h2_9⟩) hHeld ?r2_9
            case h2_9 => (intro w hSw; (try dsimp only at hSw); go_simp; try with_reducible rfl)
            try simp only [Act.put, List.setIfInBounds_toArray, List.set_cons_zero, List.set_cons_succ]
            refine wpAnyH_take (i := 10) (oi := { dst := some 20, op := Op.move (Operand.tmp 0), type := 42, pos := "ref.go:92", after := #[{ on := 9, ground := Ground.guard }], guard := some (9, true) }) (v := undef) (by kernel_rfl) (by kernel_rfl) (by kernel_rfl) (by kernel_rfl) (fun _ _ _ h => h) (Or.inr ⟨by kernel_rfl, rfl⟩) hHeld ?_
            try simp only [Act.put, List.setIfInBounds_toArray, List.set_cons_zero, List.set_cons_succ]
            refine wpAnyH_take (i := 11) (oi := { dst := some 21, op := Op.move (Operand.tmp 3), type := 3, pos := "ref.go:92", after := #[{ on := 9, ground := Ground.guard }], guard := some (9, true) }) (v := undef) (by kernel_rfl) (by kernel_rfl) (by kernel_rfl) (by kernel_rfl) (fun _ _ _ h => h) (Or.inr ⟨by kernel_rfl, rfl⟩) hHeld ?_
            try simp only [Act.put, List.setIfInBounds_toArray, List.set_cons_zero, List.set_cons_succ]
            refine wpAnyH_take (i := 12) (oi := { dst := some 22, op := Op.binOp BinOp.sub 3 (Operand.tmp 21) (Operand.const (Value.int IntKind.i64 1)) 3, type := 3, pos := "ref.go:92", after := #[{ on := 11, ground := Ground.data }, { on := 9, ground := Ground.guard }], guard := some (9, true) }) (v := undef) (by kernel_rfl) (by kernel_rfl) (by kernel_rfl) (by kernel_rfl) (fun _ _ _ h => h) (Or.inr ⟨by kernel_rfl, rfl⟩) hHeld ?_
            try simp only [Act.put, List.setIfInBounds_toArray, List.set_cons_zero, List.set_cons_succ]
            refine wpAnyH_take (i := 13) (oi := { dst := some 23, op := Op.indexAddr 42 (Operand.tmp 20) (Operand.tmp 22), type := 0, pos := "ref.go:92", after := #[{ on := 10, ground := Ground.data }, { on := 12, ground := Ground.data }, { on := 9, ground := Ground.guard }], guard := some (9, true) }) (v := undef) (by kernel_rfl) (by kernel_rfl) (by kernel_rfl) (by kernel_rfl) (fun _ _ _ h => h) (Or.inr ⟨by kernel_rfl, rfl⟩) hHeld ?_
            try simp only [Act.put, List.setIfInBounds_toArray, List.set_cons_zero, List.set_cons_succ]
            refine wpAnyH_take (i := 14) (oi := { dst := some 24, op := Op.load 46 (Operand.tmp 23), type := 46, pos := "ref.go:92", after := #[{ on := 13, ground := Ground.data }, { on := 9, ground := Ground.guard }], guard := some (9, true) }) (v := undef) (by kernel_rfl) (by kernel_rfl) (by kernel_rfl) (by kernel_rfl) (fun _ _ _ h => h) (Or.inr ⟨by kernel_rfl, rfl⟩) hHeld ?_
            try simp only [Act.put, List.setIfInBounds_toArray, List.set_cons_zero, List.set_cons_succ]
            refine wpAnyH_take (i := 15) (oi := { dst := some 25, op := Op.move (Operand.tmp 0), type := 42, pos := "ref.go:92", after := #[{ on := 9, ground := Ground.guard }], guard := some (9, true) }) (v := undef) (by kernel_rfl) (by kernel_rfl) (by kernel_rfl) (by kernel_rfl) (fun _ _ _ h => h) (Or.inr ⟨by kernel_rfl, rfl⟩) hHeld ?_
            try simp only [Act.put, List.setIfInBounds_toArray, List.set_cons_zero, List.set_cons_succ]
            refine wpAnyH_take (i := 16) (oi := { dst := some 26, op := Op.move (Operand.tmp 3), type := 3, pos := "ref.go:92", after := #[{ on := 9, ground := Ground.guard }], guard := some (9, true) }) (v := undef) (by kernel_rfl) (by kernel_rfl) (by kernel_rfl) (by kernel_rfl) (fun _ _ _ h => h) (Or.inr ⟨by kernel_rfl, rfl⟩) hHeld ?_
            try simp only [Act.put, List.setIfInBounds_toArray, List.set_cons_zero, List.set_cons_succ]
            refine wpAnyH_take (i := 17) (oi := { dst := some 27, op := Op.indexAddr 42 (Operand.tmp 25) (Operand.tmp 26), type := 0, pos := "ref.go:92", after := #[{ on := 15, ground := Ground.data }, { on := 16, ground := Ground.data }, { on := 9, ground := Ground.guard }], guard := some (9, true) }) (v := undef) (by kernel_rfl) (by kernel_rfl) (by kernel_rfl) (by kernel_rfl) (fun _ _ _ h => h) (Or.inr ⟨by kernel_rfl, rfl⟩) hHeld ?_
            try simp only [Act.put, List.setIfInBounds_toArray, List.set_cons_zero, List.set_cons_succ]
            refine wpAnyH_take (i := 18) (oi := { dst := some 28, op := Op.load 46 (Operand.tmp 27), type := 46, pos := "ref.go:92", after := #[{ on := 17, ground := Ground.data }, { on := 9, ground := Ground.guard }], guard := some (9, true) }) (v := undef) (by kernel_rfl) (by kernel_rfl) (by kernel_rfl) (by kernel_rfl) (fun _ _ _ h => h) (Or.inr ⟨by kernel_rfl, rfl⟩) hHeld ?_
            try simp only [Act.put, List.setIfInBounds_toArray, List.set_cons_zero, List.set_cons_succ]
            refine wpAnyH_take (i := 19) (oi := { dst := some 29, op := Op.call { callee := Callee.value (Operand.func 50), args := #[Operand.tmp 24, Operand.tmp 28], argTypes := #[46, 46] }, type := 4, pos := "ref.go:92", after := #[{ on := 14, ground := Ground.data }, { on := 18, ground := Ground.data }, { on := 9, ground := Ground.chain }, { on := 9, ground := Ground.guard }], guard := some (9, true) }) (v := undef) (by kernel_rfl) (by kernel_rfl) (by kernel_rfl) (by kernel_rfl) (fun _ _ _ h => h) (Or.inr ⟨by kernel_rfl, rfl⟩) hHeld ?_
            try simp only [Act.put, List.setIfInBounds_toArray, List.set_cons_zero, List.set_cons_succ]
            refine wpAnyH_take (i := 20) (oi := { dst := some 30, op := Op.unOp UnOp.not 4 (Operand.tmp 29), type := 4, pos := "ref.go:92", after := #[{ on := 19, ground := Ground.data }, { on := 9, ground := Ground.guard }], guard := some (9, true) }) (v := undef) (by kernel_rfl) (by kernel_rfl) (by kernel_rfl) (by kernel_rfl) (fun _ _ _ h => h) (Or.inr ⟨by kernel_rfl, rfl⟩) hHeld ?_
            try simp only [Act.put, List.setIfInBounds_toArray, List.set_cons_zero, List.set_cons_succ]
            refine wpAnyH_take (i := 21) (oi := { dst := some 31, op := Op.pick (Operand.tmp 19) (Operand.tmp 30) (Operand.const (Value.bool false)), type := 4, pos := "ref.go:92", after := #[{ on := 9, ground := Ground.data }, { on := 20, ground := Ground.data }, { on := 6, ground := Ground.guard }], guard := some (6, false) }) (v := ?v2_21) (by kernel_rfl) (by kernel_rfl) (by kernel_rfl) (by kernel_rfl) (fun _ _ _ h => h) (Or.inl ⟨by kernel_rfl, ?h2_21⟩) hHeld ?r2_21
            case h2_21 => (intro w hSw; (try dsimp only at hSw); go_simp; try with_reducible rfl)
            try simp only [Act.put, List.setIfInBounds_toArray, List.set_cons_zero, List.set_cons_succ]
            refine wpAnyH_take (i := 22) (oi := { dst := some 32, op := Op.pick (Operand.tmp 16) (Operand.const (Value.bool true)) (Operand.tmp 31), type := 4, pos := "ref.go:92", after := #[{ on := 6, ground := Ground.data }, { on := 21, ground := Ground.data }], guard := none }) (v := ?v2_22) (by kernel_rfl) (by kernel_rfl) (by kernel_rfl) (by kernel_rfl) (fun _ _ _ h => h) (Or.inl ⟨by kernel_rfl, ?h2_22⟩) hHeld ?r2_22
            case h2_22 => (intro w hSw; (try dsimp only at hSw); go_simp; try with_reducible rfl)
            try simp only [Act.put, List.setIfInBounds_toArray, List.set_cons_zero, List.set_cons_succ]
            refine wpAnyH_take (i := 23) (oi := { dst := some 33, op := Op.move (Operand.tmp 32), type := 4, pos := "ref.go:92", after := #[{ on := 22, ground := Ground.data }, { on := 19, ground := Ground.chain }], guard := none }) (v := ?v2_23) (by kernel_rfl) (by kernel_rfl) (by kernel_rfl) (by kernel_rfl) (fun _ _ _ h => h) (Or.inl ⟨by kernel_rfl, ?h2_23⟩) hHeld ?r2_23
            case h2_23 => (intro w hSw; (try dsimp only at hSw); go_simp; try with_reducible rfl)
            try simp only [Act.put, List.setIfInBounds_toArray, List.set_cons_zero, List.set_cons_succ]
            refine wpAnyH_take (i := 24) (oi := { dst := some 34, op := Op.move (Operand.tmp 0), type := 42, pos := "ref.go:92", after := #[{ on := 23, ground := Ground.guard }], guard := some (23, false) }) (v := ?v2_24) (by kernel_rfl) (by kernel_rfl) (by kernel_rfl) (by kernel_rfl) (fun _ _ _ h => h) (Or.inl ⟨by kernel_rfl, ?h2_24⟩) hHeld ?r2_24
            case h2_24 => (intro w hSw; (try dsimp only at hSw); go_simp; try with_reducible rfl)
            try simp only [Act.put, List.setIfInBounds_toArray, List.set_cons_zero, List.set_cons_succ]
            refine wpAnyH_take (i := 25) (oi := { dst := some 35, op := Op.move (Operand.tmp 0), type := 42, pos := "ref.go:92", after := #[{ on := 23, ground := Ground.guard }], guard := some (23, false) }) (v := ?v2_25) (by kernel_rfl) (by kernel_rfl) (by kernel_rfl) (by kernel_rfl) (fun _ _ _ h => h) (Or.inl ⟨by kernel_rfl, ?h2_25⟩) hHeld ?r2_25
            case h2_25 => (intro w hSw; (try dsimp only at hSw); go_simp; try with_reducible rfl)
            try simp only [Act.put, List.setIfInBounds_toArray, List.set_cons_zero, List.set_cons_succ]
            refine wpAnyH_take (i := 26) (oi := { dst := some 36, op := Op.move (Operand.tmp 3), type := 3, pos := "ref.go:92", after := #[{ on := 23, ground := Ground.guard }], guard := some (23, false) }) (v := ?v2_26) (by kernel_rfl) (by kernel_rfl) (by kernel_rfl) (by kernel_rfl) (fun _ _ _ h => h) (Or.inl ⟨by kernel_rfl, ?h2_26⟩) hHeld ?r2_26
            case h2_26 => (intro w hSw; (try dsimp only at hSw); go_simp; try with_reducible rfl)
            try simp only [Act.put, List.setIfInBounds_toArray, List.set_cons_zero, List.set_cons_succ]
            refine wpAnyH_take (i := 27) (oi := { dst := some 37, op := Op.indexAddr 42 (Operand.tmp 35) (Operand.tmp 36), type := 0, pos := "ref.go:92", after := #[{ on := 25, ground := Ground.data }, { on := 26, ground := Ground.data }, { on := 23, ground := Ground.guard }], guard := some (23, false) }) (v := ?v2_27) (by kernel_rfl) (by kernel_rfl) (by kernel_rfl) (by kernel_rfl) (fun _ _ _ h => h) (Or.inl ⟨by kernel_rfl, ?h2_27⟩) hHeld ?r2_27
            case h2_27 => (intro w hSw; (try dsimp only at hSw); go_simp; try with_reducible rfl)
            try simp only [Act.put, List.setIfInBounds_toArray, List.set_cons_zero, List.set_cons_succ]
            refine wpAnyH_take (i := 28) (oi := { dst := some 38, op := Op.load 46 (Operand.tmp 37), type := 46, pos := "ref.go:92", after := #[{ on := 27, ground := Ground.data }, { on := 23, ground := Ground.guard }], guard := some (23, false) }) (v := ?v2_28) (by kernel_rfl) (by kernel_rfl) (by kernel_rfl) (by kernel_rfl) (fun _ _ _ h => h) (Or.inl ⟨by kernel_rfl, ?h2_28⟩) hHeld ?r2_28
            case h2_28 => (intro w hSw; (try dsimp only at hSw); go_simp; try with_reducible rfl)
            try simp only [Act.put, List.setIfInBounds_toArray, List.set_cons_zero, List.set_cons_succ]
            refine wpAnyH_ready (rs := [29]) (by kernel_rfl) (by simp) ?_
            refine AllReadyH.cons (i := 29) (o := { dst := some 39, op := Op.call { callee := Callee.value (Operand.func 51), args := #[Operand.tmp 34, Operand.tmp 38], argTypes := #[42, 46] }, type := 4, pos := "ref.go:92", after := #[{ on := 24, ground := Ground.data }, { on := 28, ground := Ground.data }, { on := 23, ground := Ground.chain }, { on := 23, ground := Ground.guard }], guard := some (23, false) }) rfl (fun K hK => ?_) AllReadyH.nil
            go_simp
            refine (rclash_any l (ex, ec, esy) _ c _ hl ((HR.out).later hHeld.2.2.2.2.1)).mono ?_
            rintro e' w3 ⟨rfl, hb3⟩
            rw [HK.out]
            go_wp2_with fail
            refine hK.out _ _ (by exact keep7 (by assumption) (by assumption)) (fun hHeld => ?_)
            clear hK K
            try simp only [Act.put, List.setIfInBounds_toArray, List.set_cons_zero, List.set_cons_succ]
            refine wpAnyH_take (i := 30) (oi := { dst := some 40, op := Op.pick (Operand.tmp 33) (Operand.const (Value.bool true)) (Operand.tmp 39), type := 4, pos := "ref.go:92", after := #[{ on := 23, ground := Ground.data }, { on := 29, ground := Ground.data }], guard := none }) (v := ?v2_30) (by kernel_rfl) (by kernel_rfl) (by kernel_rfl) (by kernel_rfl) (fun _ _ _ h => h) (Or.inl ⟨by kernel_rfl, ?h2_30⟩) hHeld ?r2_30
            case h2_30 => (intro w hSw; (try dsimp only at hSw); go_simp; try with_reducible rfl)
            try simp only [Act.put, List.setIfInBounds_toArray, List.set_cons_zero, List.set_cons_succ]
            refine wpAnyH_done (by kernel_rfl) ?_ _
            all_goals go_wp2_with fail
            first
            | go_roundw
              case rel => exact ⟨0 + 1, by omega, by go_num, hHeld.2.2.2.2.1, HNO.out.succ (by show (!okRt l 0) = false; rw [okRt_eq hlt HE.out, HOK.out, HK.out]; rfl)⟩
              case measure => simp [intOf]; omega
            | go_ret
              exact ⟨ret_bool (rvalid_bad hlt (by rw [okRt_eq hlt HE.out, HOK.out, HK.out]; rfl)).symm, hHeld.2.2.2.2.1⟩
          · have HK := Lib.hid hany; clear hany
            go_wp2_with fail
            refine wp_region_held_drew (S := fun W => S7 w W b (off) (ex, ec, esy) (off) (ex, ec, esy)) (by kernel_rfl) (by exact start7 hS) (fun hHeld => ?_)
            refine wpAnyH_take (i := 0) (oi := { dst := some 10, op := Op.move (Operand.tmp 0), type := 42, pos := "ref.go:92", after := #[], guard := none }) (v := ?v3_0) (by kernel_rfl) (by kernel_rfl) (by kernel_rfl) (by kernel_rfl) (fun _ _ _ h => h) (Or.inl ⟨by kernel_rfl, ?h3_0⟩) hHeld ?r3_0
            case h3_0 => (intro w hSw; (try dsimp only at hSw); go_simp; try with_reducible rfl)
            try simp only [Act.put, List.setIfInBounds_toArray, List.set_cons_zero, List.set_cons_succ]
            refine wpAnyH_take (i := 1) (oi := { dst := some 11, op := Op.move (Operand.tmp 3), type := 3, pos := "ref.go:92", after := #[], guard := none }) (v := ?v3_1) (by kernel_rfl) (by kernel_rfl) (by kernel_rfl) (by kernel_rfl) (fun _ _ _ h => h) (Or.inl ⟨by kernel_rfl, ?h3_1⟩) hHeld ?r3_1
            case h3_1 => (intro w hSw; (try dsimp only at hSw); go_simp; try with_reducible rfl)
            try simp only [Act.put, List.setIfInBounds_toArray, List.set_cons_zero, List.set_cons_succ]
            refine wpAnyH_take (i := 2) (oi := { dst := some 12, op := Op.indexAddr 42 (Operand.tmp 10) (Operand.tmp 11), type := 0, pos := "ref.go:92", after := #[{ on := 0, ground := Ground.data }, { on := 1, ground := Ground.data }], guard := none }) (v := ?v3_2) (by kernel_rfl) (by kernel_rfl) (by kernel_rfl) (by kernel_rfl) (fun _ _ _ h => h) (Or.inl ⟨by kernel_rfl, ?h3_2⟩) hHeld ?r3_2
            case h3_2 => (intro w hSw; (try dsimp only at hSw); go_simp; try with_reducible rfl)
            try simp only [Act.put, List.setIfInBounds_toArray, List.set_cons_zero, List.set_cons_succ]
            refine wpAnyH_take (i := 3) (oi := { dst := some 13, op := Op.load 46 (Operand.tmp 12), type := 46, pos := "ref.go:92", after := #[{ on := 2, ground := Ground.data }], guard := none }) (v := ?v3_3) (by kernel_rfl) (by kernel_rfl) (by kernel_rfl) (by kernel_rfl) (fun _ _ _ h => h) (Or.inl ⟨by kernel_rfl, ?h3_3⟩) hHeld ?r3_3
            case h3_3 => (intro w hSw; (try dsimp only at hSw); go_simp; try with_reducible rfl)
            try simp only [Act.put, List.setIfInBounds_toArray, List.set_cons_zero, List.set_cons_succ]
            refine wpAnyH_ready (rs := [4]) (by kernel_rfl) (by simp) ?_
            refine AllReadyH.cons (i := 4) (o := { dst := some 14, op := Op.call { callee := Callee.value (Operand.func 25), args := #[Operand.tmp 13], argTypes := #[46] }, type := 4, pos := "ref.go:92", after := #[{ on := 3, ground := Ground.data }], guard := none }) rfl (fun K hK => ?_) AllReadyH.nil
            go_simp
            refine (rright_any _ _ _ _ hxl hyl).mono ?_
            rintro e' w1 ⟨rfl, hb1⟩
            rw [HRT.out]
            go_wp2_with fail
            refine hK.out _ _ (by exact keep7 (by assumption) (by assumption)) (fun hHeld => ?_)
            clear hK K
            try simp only [Act.put, List.setIfInBounds_toArray, List.set_cons_zero, List.set_cons_succ]
            refine wpAnyH_take (i := 5) (oi := { dst := some 15, op := Op.unOp UnOp.not 4 (Operand.tmp 14), type := 4, pos := "ref.go:92", after := #[{ on := 4, ground := Ground.data }], guard := none }) (v := ?v3_5) (by kernel_rfl) (by kernel_rfl) (by kernel_rfl) (by kernel_rfl) (fun _ _ _ h => h) (Or.inl ⟨by kernel_rfl, ?h3_5⟩) hHeld ?r3_5
            case h3_5 => (intro w hSw; (try dsimp only at hSw); go_simp; try with_reducible rfl)
            try simp only [Act.put, List.setIfInBounds_toArray, List.set_cons_zero, List.set_cons_succ]
            refine wpAnyH_take (i := 6) (oi := { dst := some 16, op := Op.move (Operand.tmp 15), type := 4, pos := "ref.go:92", after := #[{ on := 5, ground := Ground.data }, { on := 4, ground := Ground.chain }], guard := none }) (v := ?v3_6) (by kernel_rfl) (by kernel_rfl) (by kernel_rfl) (by kernel_rfl) (fun _ _ _ h => h) (Or.inl ⟨by kernel_rfl, ?h3_6⟩) hHeld ?r3_6
            case h3_6 => (intro w hSw; (try dsimp only at hSw); go_simp; try with_reducible rfl)
            try simp only [Act.put, List.setIfInBounds_toArray, List.set_cons_zero, List.set_cons_succ]
            refine wpAnyH_take (i := 7) (oi := { dst := some 17, op := Op.move (Operand.tmp 3), type := 3, pos := "ref.go:92", after := #[{ on := 6, ground := Ground.guard }], guard := some (6, false) }) (v := ?v3_7) (by kernel_rfl) (by kernel_rfl) (by kernel_rfl) (by kernel_rfl) (fun _ _ _ h => h) (Or.inl ⟨by kernel_rfl, ?h3_7⟩) hHeld ?r3_7
            case h3_7 => (intro w hSw; (try dsimp only at hSw); go_simp; try with_reducible rfl)
            try simp only [Act.put, List.setIfInBounds_toArray, List.set_cons_zero, List.set_cons_succ]
            refine wpAnyH_take (i := 8) (oi := { dst := some 18, op := Op.binOp BinOp.gtr 3 (Operand.tmp 17) (Operand.const (Value.int IntKind.i64 0)) 3, type := 4, pos := "ref.go:92", after := #[{ on := 7, ground := Ground.data }, { on := 6, ground := Ground.guard }], guard := some (6, false) }) (v := ?v3_8) (by kernel_rfl) (by kernel_rfl) (by kernel_rfl) (by kernel_rfl) (fun _ _ _ h => h) (Or.inl ⟨by kernel_rfl, ?h3_8⟩) hHeld ?r3_8
            case h3_8 => (intro w hSw; (try dsimp only at hSw); go_simp; try with_reducible rfl)
            try simp only [Act.put, List.setIfInBounds_toArray, List.set_cons_zero, List.set_cons_succ]
            refine wpAnyH_take (i := 9) (oi := { dst := some 19, op := Op.move (Operand.tmp 18), type := 4, pos := "ref.go:92", after := #[{ on := 8, ground := Ground.data }, { on := 6, ground := Ground.chain }, { on := 6, ground := Ground.guard }], guard := some (6, false) }) (v := ?v3_9) (by kernel_rfl) (by kernel_rfl) (by kernel_rfl) (by kernel_rfl) (fun _ _ _ h => h) (Or.inl ⟨by kernel_rfl, ?h3_9⟩) hHeld ?r3_9
            case h3_9 => (intro w hSw; (try dsimp only at hSw); go_simp; try with_reducible rfl)
            try simp only [Act.put, List.setIfInBounds_toArray, List.set_cons_zero, List.set_cons_succ]
            refine wpAnyH_take (i := 10) (oi := { dst := some 20, op := Op.move (Operand.tmp 0), type := 42, pos := "ref.go:92", after := #[{ on := 9, ground := Ground.guard }], guard := some (9, true) }) (v := undef) (by kernel_rfl) (by kernel_rfl) (by kernel_rfl) (by kernel_rfl) (fun _ _ _ h => h) (Or.inr ⟨by kernel_rfl, rfl⟩) hHeld ?_
            try simp only [Act.put, List.setIfInBounds_toArray, List.set_cons_zero, List.set_cons_succ]
            refine wpAnyH_take (i := 11) (oi := { dst := some 21, op := Op.move (Operand.tmp 3), type := 3, pos := "ref.go:92", after := #[{ on := 9, ground := Ground.guard }], guard := some (9, true) }) (v := undef) (by kernel_rfl) (by kernel_rfl) (by kernel_rfl) (by kernel_rfl) (fun _ _ _ h => h) (Or.inr ⟨by kernel_rfl, rfl⟩) hHeld ?_
            try simp only [Act.put, List.setIfInBounds_toArray, List.set_cons_zero, List.set_cons_succ]
            refine wpAnyH_take (i := 12) (oi := { dst := some 22, op := Op.binOp BinOp.sub 3 (Operand.tmp 21) (Operand.const (Value.int IntKind.i64 1)) 3, type := 3, pos := "ref.go:92", after := #[{ on := 11, ground := Ground.data }, { on := 9, ground := Ground.guard }], guard := some (9, true) }) (v := undef) (by kernel_rfl) (by kernel_rfl) (by kernel_rfl) (by kernel_rfl) (fun _ _ _ h => h) (Or.inr ⟨by kernel_rfl, rfl⟩) hHeld ?_
            try simp only [Act.put, List.setIfInBounds_toArray, List.set_cons_zero, List.set_cons_succ]
            refine wpAnyH_take (i := 13) (oi := { dst := some 23, op := Op.indexAddr 42 (Operand.tmp 20) (Operand.tmp 22), type := 0, pos := "ref.go:92", after := #[{ on := 10, ground := Ground.data }, { on := 12, ground := Ground.data }, { on := 9, ground := Ground.guard }], guard := some (9, true) }) (v := undef) (by kernel_rfl) (by kernel_rfl) (by kernel_rfl) (by kernel_rfl) (fun _ _ _ h => h) (Or.inr ⟨by kernel_rfl, rfl⟩) hHeld ?_
            try simp only [Act.put, List.setIfInBounds_toArray, List.set_cons_zero, List.set_cons_succ]
            refine wpAnyH_take (i := 14) (oi := { dst := some 24, op := Op.load 46 (Operand.tmp 23), type := 46, pos := "ref.go:92", after := #[{ on := 13, ground := Ground.data }, { on := 9, ground := Ground.guard }], guard := some (9, true) }) (v := undef) (by kernel_rfl) (by kernel_rfl) (by kernel_rfl) (by kernel_rfl) (fun _ _ _ h => h) (Or.inr ⟨by kernel_rfl, rfl⟩) hHeld ?_
            try simp only [Act.put, List.setIfInBounds_toArray, List.set_cons_zero, List.set_cons_succ]
            refine wpAnyH_take (i := 15) (oi := { dst := some 25, op := Op.move (Operand.tmp 0), type := 42, pos := "ref.go:92", after := #[{ on := 9, ground := Ground.guard }], guard := some (9, true) }) (v := undef) (by kernel_rfl) (by kernel_rfl) (by kernel_rfl) (by kernel_rfl) (fun _ _ _ h => h) (Or.inr ⟨by kernel_rfl, rfl⟩) hHeld ?_
            try simp only [Act.put, List.setIfInBounds_toArray, List.set_cons_zero, List.set_cons_succ]
            refine wpAnyH_take (i := 16) (oi := { dst := some 26, op := Op.move (Operand.tmp 3), type := 3, pos := "ref.go:92", after := #[{ on := 9, ground := Ground.guard }], guard := some (9, true) }) (v := undef) (by kernel_rfl) (by kernel_rfl) (by kernel_rfl) (by kernel_rfl) (fun _ _ _ h => h) (Or.inr ⟨by kernel_rfl, rfl⟩) hHeld ?_
            try simp only [Act.put, List.setIfInBounds_toArray, List.set_cons_zero, List.set_cons_succ]
            refine wpAnyH_take (i := 17) (oi := { dst := some 27, op := Op.indexAddr 42 (Operand.tmp 25) (Operand.tmp 26), type := 0, pos := "ref.go:92", after := #[{ on := 15, ground := Ground.data }, { on := 16, ground := Ground.data }, { on := 9, ground := Ground.guard }], guard := some (9, true) }) (v := undef) (by kernel_rfl) (by kernel_rfl) (by kernel_rfl) (by kernel_rfl) (fun _ _ _ h => h) (Or.inr ⟨by kernel_rfl, rfl⟩) hHeld ?_
            try simp only [Act.put, List.setIfInBounds_toArray, List.set_cons_zero, List.set_cons_succ]
            refine wpAnyH_take (i := 18) (oi := { dst := some 28, op := Op.load 46 (Operand.tmp 27), type := 46, pos := "ref.go:92", after := #[{ on := 17, ground := Ground.data }, { on := 9, ground := Ground.guard }], guard := some (9, true) }) (v := undef) (by kernel_rfl) (by kernel_rfl) (by kernel_rfl) (by kernel_rfl) (fun _ _ _ h => h) (Or.inr ⟨by kernel_rfl, rfl⟩) hHeld ?_
            try simp only [Act.put, List.setIfInBounds_toArray, List.set_cons_zero, List.set_cons_succ]
            refine wpAnyH_take (i := 19) (oi := { dst := some 29, op := Op.call { callee := Callee.value (Operand.func 50), args := #[Operand.tmp 24, Operand.tmp 28], argTypes := #[46, 46] }, type := 4, pos := "ref.go:92", after := #[{ on := 14, ground := Ground.data }, { on := 18, ground := Ground.data }, { on := 9, ground := Ground.chain }, { on := 9, ground := Ground.guard }], guard := some (9, true) }) (v := undef) (by kernel_rfl) (by kernel_rfl) (by kernel_rfl) (by kernel_rfl) (fun _ _ _ h => h) (Or.inr ⟨by kernel_rfl, rfl⟩) hHeld ?_
            try simp only [Act.put, List.setIfInBounds_toArray, List.set_cons_zero, List.set_cons_succ]
            refine wpAnyH_take (i := 20) (oi := { dst := some 30, op := Op.unOp UnOp.not 4 (Operand.tmp 29), type := 4, pos := "ref.go:92", after := #[{ on := 19, ground := Ground.data }, { on := 9, ground := Ground.guard }], guard := some (9, true) }) (v := undef) (by kernel_rfl) (by kernel_rfl) (by kernel_rfl) (by kernel_rfl) (fun _ _ _ h => h) (Or.inr ⟨by kernel_rfl, rfl⟩) hHeld ?_
            try simp only [Act.put, List.setIfInBounds_toArray, List.set_cons_zero, List.set_cons_succ]
            refine wpAnyH_take (i := 21) (oi := { dst := some 31, op := Op.pick (Operand.tmp 19) (Operand.tmp 30) (Operand.const (Value.bool false)), type := 4, pos := "ref.go:92", after := #[{ on := 9, ground := Ground.data }, { on := 20, ground := Ground.data }, { on := 6, ground := Ground.guard }], guard := some (6, false) }) (v := ?v3_21) (by kernel_rfl) (by kernel_rfl) (by kernel_rfl) (by kernel_rfl) (fun _ _ _ h => h) (Or.inl ⟨by kernel_rfl, ?h3_21⟩) hHeld ?r3_21
            case h3_21 => (intro w hSw; (try dsimp only at hSw); go_simp; try with_reducible rfl)
            try simp only [Act.put, List.setIfInBounds_toArray, List.set_cons_zero, List.set_cons_succ]
            refine wpAnyH_take (i := 22) (oi := { dst := some 32, op := Op.pick (Operand.tmp 16) (Operand.const (Value.bool true)) (Operand.tmp 31), type := 4, pos := "ref.go:92", after := #[{ on := 6, ground := Ground.data }, { on := 21, ground := Ground.data }], guard := none }) (v := ?v3_22) (by kernel_rfl) (by kernel_rfl) (by kernel_rfl) (by kernel_rfl) (fun _ _ _ h => h) (Or.inl ⟨by kernel_rfl, ?h3_22⟩) hHeld ?r3_22
            case h3_22 => (intro w hSw; (try dsimp only at hSw); go_simp; try with_reducible rfl)
            try simp only [Act.put, List.setIfInBounds_toArray, List.set_cons_zero, List.set_cons_succ]
            refine wpAnyH_take (i := 23) (oi := { dst := some 33, op := Op.move (Operand.tmp 32), type := 4, pos := "ref.go:92", after := #[{ on := 22, ground := Ground.data }, { on := 19, ground := Ground.chain }], guard := none }) (v := ?v3_23) (by kernel_rfl) (by kernel_rfl) (by kernel_rfl) (by kernel_rfl) (fun _ _ _ h => h) (Or.inl ⟨by kernel_rfl, ?h3_23⟩) hHeld ?r3_23
            case h3_23 => (intro w hSw; (try dsimp only at hSw); go_simp; try with_reducible rfl)
            try simp only [Act.put, List.setIfInBounds_toArray, List.set_cons_zero, List.set_cons_succ]
            refine wpAnyH_take (i := 24) (oi := { dst := some 34, op := Op.move (Operand.tmp 0), type := 42, pos := "ref.go:92", after := #[{ on := 23, ground := Ground.guard }], guard := some (23, false) }) (v := ?v3_24) (by kernel_rfl) (by kernel_rfl) (by kernel_rfl) (by kernel_rfl) (fun _ _ _ h => h) (Or.inl ⟨by kernel_rfl, ?h3_24⟩) hHeld ?r3_24
            case h3_24 => (intro w hSw; (try dsimp only at hSw); go_simp; try with_reducible rfl)
            try simp only [Act.put, List.setIfInBounds_toArray, List.set_cons_zero, List.set_cons_succ]
            refine wpAnyH_take (i := 25) (oi := { dst := some 35, op := Op.move (Operand.tmp 0), type := 42, pos := "ref.go:92", after := #[{ on := 23, ground := Ground.guard }], guard := some (23, false) }) (v := ?v3_25) (by kernel_rfl) (by kernel_rfl) (by kernel_rfl) (by kernel_rfl) (fun _ _ _ h => h) (Or.inl ⟨by kernel_rfl, ?h3_25⟩) hHeld ?r3_25
            case h3_25 => (intro w hSw; (try dsimp only at hSw); go_simp; try with_reducible rfl)
            try simp only [Act.put, List.setIfInBounds_toArray, List.set_cons_zero, List.set_cons_succ]
            refine wpAnyH_take (i := 26) (oi := { dst := some 36, op := Op.move (Operand.tmp 3), type := 3, pos := "ref.go:92", after := #[{ on := 23, ground := Ground.guard }], guard := some (23, false) }) (v := ?v3_26) (by kernel_rfl) (by kernel_rfl) (by kernel_rfl) (by kernel_rfl) (fun _ _ _ h => h) (Or.inl ⟨by kernel_rfl, ?h3_26⟩) hHeld ?r3_26
            case h3_26 => (intro w hSw; (try dsimp only at hSw); go_simp; try with_reducible rfl)
            try simp only [Act.put, List.setIfInBounds_toArray, List.set_cons_zero, List.set_cons_succ]
            refine wpAnyH_take (i := 27) (oi := { dst := some 37, op := Op.indexAddr 42 (Operand.tmp 35) (Operand.tmp 36), type := 0, pos := "ref.go:92", after := #[{ on := 25, ground := Ground.data }, { on := 26, ground := Ground.data }, { on := 23, ground := Ground.guard }], guard := some (23, false) }) (v := ?v3_27) (by kernel_rfl) (by kernel_rfl) (by kernel_rfl) (by kernel_rfl) (fun _ _ _ h => h) (Or.inl ⟨by kernel_rfl, ?h3_27⟩) hHeld ?r3_27
            case h3_27 => (intro w hSw; (try dsimp only at hSw); go_simp; try with_reducible rfl)
            try simp only [Act.put, List.setIfInBounds_toArray, List.set_cons_zero, List.set_cons_succ]
            refine wpAnyH_take (i := 28) (oi := { dst := some 38, op := Op.load 46 (Operand.tmp 37), type := 46, pos := "ref.go:92", after := #[{ on := 27, ground := Ground.data }, { on := 23, ground := Ground.guard }], guard := some (23, false) }) (v := ?v3_28) (by kernel_rfl) (by kernel_rfl) (by kernel_rfl) (by kernel_rfl) (fun _ _ _ h => h) (Or.inl ⟨by kernel_rfl, ?h3_28⟩) hHeld ?r3_28
            case h3_28 => (intro w hSw; (try dsimp only at hSw); go_simp; try with_reducible rfl)
            try simp only [Act.put, List.setIfInBounds_toArray, List.set_cons_zero, List.set_cons_succ]
            refine wpAnyH_ready (rs := [29]) (by kernel_rfl) (by simp) ?_
            refine AllReadyH.cons (i := 29) (o := { dst := some 39, op := Op.call { callee := Callee.value (Operand.func 51), args := #[Operand.tmp 34, Operand.tmp 38], argTypes := #[42, 46] }, type := 4, pos := "ref.go:92", after := #[{ on := 24, ground := Ground.data }, { on := 28, ground := Ground.data }, { on := 23, ground := Ground.chain }, { on := 23, ground := Ground.guard }], guard := some (23, false) }) rfl (fun K hK => ?_) AllReadyH.nil
            go_simp
            refine (rclash_any l (ex, ec, esy) _ c _ hl ((HR.out).later hHeld.2.2.2.2.1)).mono ?_
            rintro e' w3 ⟨rfl, hb3⟩
            rw [HK.out]
            go_wp2_with fail
            refine hK.out _ _ (by exact keep7 (by assumption) (by assumption)) (fun hHeld => ?_)
            clear hK K
            try simp only [Act.put, List.setIfInBounds_toArray, List.set_cons_zero, List.set_cons_succ]
            refine wpAnyH_take (i := 30) (oi := { dst := some 40, op := Op.pick (Operand.tmp 33) (Operand.const (Value.bool true)) (Operand.tmp 39), type := 4, pos := "ref.go:92", after := #[{ on := 23, ground := Ground.data }, { on := 29, ground := Ground.data }], guard := none }) (v := ?v3_30) (by kernel_rfl) (by kernel_rfl) (by kernel_rfl) (by kernel_rfl) (fun _ _ _ h => h) (Or.inl ⟨by kernel_rfl, ?h3_30⟩) hHeld ?r3_30
            case h3_30 => (intro w hSw; (try dsimp only at hSw); go_simp; try with_reducible rfl)
            try simp only [Act.put, List.setIfInBounds_toArray, List.set_cons_zero, List.set_cons_succ]
            refine wpAnyH_done (by kernel_rfl) ?_ _
            all_goals go_wp2_with fail
            first
            | go_roundw
              case rel => exact ⟨0 + 1, by omega, by go_num, hHeld.2.2.2.2.1, HNO.out.succ (by show (!okRt l 0) = false; rw [okRt_eq hlt HE.out, HOK.out, HK.out]; rfl)⟩
              case measure => simp [intOf]; omega
            | go_ret
              exact ⟨ret_bool (rvalid_bad hlt (by rw [okRt_eq hlt HE.out, HOK.out, HK.out]; rfl)).symm, hHeld.2.2.2.2.1⟩
        · obtain ⟨j, rfl⟩ : ∃ j, k = j + 1 := ⟨k - 1, by omega⟩
          obtain ⟨b', off', hA', hB', q0, q1, q2⟩ := ((HR.out).below hb).ent (k := j) (by omega)
          cases hA'
          have hjl : l.getD j dE = l[j] := by simp; rw [List.getElem?_eq_getElem (by omega)]; rfl
          have HJ := Lib.hid hjl; clear hjl
          generalize hq : l[j] = q at q0 q1 q2 HJ
          clear hq
          obtain ⟨qx, qc, qy⟩ := q
          have hS : S7 w wr b (off + (j + 1) * 3) (ex, ec, esy) (off + j * 3) (qx, qc, qy) := ⟨h0, h1, h2, by omega, hb, q0, q1, q2⟩
          have hj0 : (0 : Int) ≤ (j : Int) := by omega
          have hs0 : (0 : Int) ≤ (j : Int) + 1 := by omega
          have hs1 : (j : Int) + 1 < (l.length : Int) := by omega
          have hj1 : (j : Int) < (l.length : Int) := by omega
          have hwj : IntKind.i64.wrap (j : Int) = j := IntWalk.i64_in _ (by omega)
          by_cases hcm : cmpL (qx, qc, qy) (ex, ec, esy) < 0
          · have hcd : decide (cmpL (qx, qc, qy) (ex, ec, esy) < 0) = true := decide_eq_true hcm
            have HCD := Lib.hid hcd; clear hcd
            have HOK := Lib.hid (okR_succ (l := l) HRT.out HJ.out hcm)
            clear hcm
            cases hany : (l.any fun o => clashL o (ex, ec, esy))
            · have HK := Lib.hid hany; clear hany
              go_wp2_with fail
              refine wp_region_held_drew (S := fun W => S7 w W b (off + (j + 1) * 3) (ex, ec, esy) (off + j * 3) (qx, qc, qy)) (by kernel_rfl) (by exact start7 hS) (fun hHeld => ?_)
              refine wpAnyH_take (i := 0) (oi := { dst := some 10, op := Op.move (Operand.tmp 0), type := 42, pos := "ref.go:92", after := #[], guard := none }) (v := ?v4_0) (by kernel_rfl) (by kernel_rfl) (by kernel_rfl) (by kernel_rfl) (fun _ _ _ h => h) (Or.inl ⟨by kernel_rfl, ?h4_0⟩) hHeld ?r4_0
              case h4_0 => (intro w hSw; (try dsimp only at hSw); go_simp; try with_reducible rfl)
              try simp only [Act.put, List.setIfInBounds_toArray, List.set_cons_zero, List.set_cons_succ]
              refine wpAnyH_take (i := 1) (oi := { dst := some 11, op := Op.move (Operand.tmp 3), type := 3, pos := "ref.go:92", after := #[], guard := none }) (v := ?v4_1) (by kernel_rfl) (by kernel_rfl) (by kernel_rfl) (by kernel_rfl) (fun _ _ _ h => h) (Or.inl ⟨by kernel_rfl, ?h4_1⟩) hHeld ?r4_1
              case h4_1 => (intro w hSw; (try dsimp only at hSw); go_simp; try with_reducible rfl)
              try simp only [Act.put, List.setIfInBounds_toArray, List.set_cons_zero, List.set_cons_succ]
              refine wpAnyH_take (i := 2) (oi := { dst := some 12, op := Op.indexAddr 42 (Operand.tmp 10) (Operand.tmp 11), type := 0, pos := "ref.go:92", after := #[{ on := 0, ground := Ground.data }, { on := 1, ground := Ground.data }], guard := none }) (v := ?v4_2) (by kernel_rfl) (by kernel_rfl) (by kernel_rfl) (by kernel_rfl) (fun _ _ _ h => h) (Or.inl ⟨by kernel_rfl, ?h4_2⟩) hHeld ?r4_2
              case h4_2 => (intro w hSw; (try dsimp only at hSw); go_simp; try with_reducible rfl)
              try simp only [Act.put, List.setIfInBounds_toArray, List.set_cons_zero, List.set_cons_succ]
              refine wpAnyH_take (i := 3) (oi := { dst := some 13, op := Op.load 46 (Operand.tmp 12), type := 46, pos := "ref.go:92", after := #[{ on := 2, ground := Ground.data }], guard := none }) (v := ?v4_3) (by kernel_rfl) (by kernel_rfl) (by kernel_rfl) (by kernel_rfl) (fun _ _ _ h => h) (Or.inl ⟨by kernel_rfl, ?h4_3⟩) hHeld ?r4_3
              case h4_3 => (intro w hSw; (try dsimp only at hSw); go_simp; try with_reducible rfl)
              try simp only [Act.put, List.setIfInBounds_toArray, List.set_cons_zero, List.set_cons_succ]
              refine wpAnyH_ready (rs := [4]) (by kernel_rfl) (by simp) ?_
              refine AllReadyH.cons (i := 4) (o := { dst := some 14, op := Op.call { callee := Callee.value (Operand.func 25), args := #[Operand.tmp 13], argTypes := #[46] }, type := 4, pos := "ref.go:92", after := #[{ on := 3, ground := Ground.data }], guard := none }) rfl (fun K hK => ?_) AllReadyH.nil
              go_simp
              refine (rright_any _ _ _ _ hxl hyl).mono ?_
              rintro e' w1 ⟨rfl, hb1⟩
              rw [HRT.out]
              go_wp2_with fail
              refine hK.out _ _ (by exact keep7 (by assumption) (by assumption)) (fun hHeld => ?_)
              clear hK K
              try simp only [Act.put, List.setIfInBounds_toArray, List.set_cons_zero, List.set_cons_succ]
              refine wpAnyH_take (i := 5) (oi := { dst := some 15, op := Op.unOp UnOp.not 4 (Operand.tmp 14), type := 4, pos := "ref.go:92", after := #[{ on := 4, ground := Ground.data }], guard := none }) (v := ?v4_5) (by kernel_rfl) (by kernel_rfl) (by kernel_rfl) (by kernel_rfl) (fun _ _ _ h => h) (Or.inl ⟨by kernel_rfl, ?h4_5⟩) hHeld ?r4_5
              case h4_5 => (intro w hSw; (try dsimp only at hSw); go_simp; try with_reducible rfl)
              try simp only [Act.put, List.setIfInBounds_toArray, List.set_cons_zero, List.set_cons_succ]
              refine wpAnyH_take (i := 6) (oi := { dst := some 16, op := Op.move (Operand.tmp 15), type := 4, pos := "ref.go:92", after := #[{ on := 5, ground := Ground.data }, { on := 4, ground := Ground.chain }], guard := none }) (v := ?v4_6) (by kernel_rfl) (by kernel_rfl) (by kernel_rfl) (by kernel_rfl) (fun _ _ _ h => h) (Or.inl ⟨by kernel_rfl, ?h4_6⟩) hHeld ?r4_6
              case h4_6 => (intro w hSw; (try dsimp only at hSw); go_simp; try with_reducible rfl)
              try simp only [Act.put, List.setIfInBounds_toArray, List.set_cons_zero, List.set_cons_succ]
              refine wpAnyH_take (i := 7) (oi := { dst := some 17, op := Op.move (Operand.tmp 3), type := 3, pos := "ref.go:92", after := #[{ on := 6, ground := Ground.guard }], guard := some (6, false) }) (v := ?v4_7) (by kernel_rfl) (by kernel_rfl) (by kernel_rfl) (by kernel_rfl) (fun _ _ _ h => h) (Or.inl ⟨by kernel_rfl, ?h4_7⟩) hHeld ?r4_7
              case h4_7 => (intro w hSw; (try dsimp only at hSw); go_simp; try with_reducible rfl)
              try simp only [Act.put, List.setIfInBounds_toArray, List.set_cons_zero, List.set_cons_succ]
              refine wpAnyH_take (i := 8) (oi := { dst := some 18, op := Op.binOp BinOp.gtr 3 (Operand.tmp 17) (Operand.const (Value.int IntKind.i64 0)) 3, type := 4, pos := "ref.go:92", after := #[{ on := 7, ground := Ground.data }, { on := 6, ground := Ground.guard }], guard := some (6, false) }) (v := ?v4_8) (by kernel_rfl) (by kernel_rfl) (by kernel_rfl) (by kernel_rfl) (fun _ _ _ h => h) (Or.inl ⟨by kernel_rfl, ?h4_8⟩) hHeld ?r4_8
              case h4_8 => (intro w hSw; (try dsimp only at hSw); go_simp; try with_reducible rfl)
              try simp only [Act.put, List.setIfInBounds_toArray, List.set_cons_zero, List.set_cons_succ]
              refine wpAnyH_take (i := 9) (oi := { dst := some 19, op := Op.move (Operand.tmp 18), type := 4, pos := "ref.go:92", after := #[{ on := 8, ground := Ground.data }, { on := 6, ground := Ground.chain }, { on := 6, ground := Ground.guard }], guard := some (6, false) }) (v := ?v4_9) (by kernel_rfl) (by kernel_rfl) (by kernel_rfl) (by kernel_rfl) (fun _ _ _ h => h) (Or.inl ⟨by kernel_rfl, ?h4_9⟩) hHeld ?r4_9
              case h4_9 => (intro w hSw; (try dsimp only at hSw); go_simp; try with_reducible rfl)
              try simp only [Act.put, List.setIfInBounds_toArray, List.set_cons_zero, List.set_cons_succ]
              refine wpAnyH_take (i := 10) (oi := { dst := some 20, op := Op.move (Operand.tmp 0), type := 42, pos := "ref.go:92", after := #[{ on := 9, ground := Ground.guard }], guard := some (9, true) }) (v := ?v4_10) (by kernel_rfl) (by kernel_rfl) (by kernel_rfl) (by kernel_rfl) (fun _ _ _ h => h) (Or.inl ⟨by kernel_rfl, ?h4_10⟩) hHeld ?r4_10
              case h4_10 => (intro w hSw; (try dsimp only at hSw); go_simp; try with_reducible rfl)
              try simp only [Act.put, List.setIfInBounds_toArray, List.set_cons_zero, List.set_cons_succ]
              refine wpAnyH_take (i := 11) (oi := { dst := some 21, op := Op.move (Operand.tmp 3), type := 3, pos := "ref.go:92", after := #[{ on := 9, ground := Ground.guard }], guard := some (9, true) }) (v := ?v4_11) (by kernel_rfl) (by kernel_rfl) (by kernel_rfl) (by kernel_rfl) (fun _ _ _ h => h) (Or.inl ⟨by kernel_rfl, ?h4_11⟩) hHeld ?r4_11
              case h4_11 => (intro w hSw; (try dsimp only at hSw); go_simp; try with_reducible rfl)
              try simp only [Act.put, List.setIfInBounds_toArray, List.set_cons_zero, List.set_cons_succ]
              refine wpAnyH_take (i := 12) (oi := { dst := some 22, op := Op.binOp BinOp.sub 3 (Operand.tmp 21) (Operand.const (Value.int IntKind.i64 1)) 3, type := 3, pos := "ref.go:92", after := #[{ on := 11, ground := Ground.data }, { on := 9, ground := Ground.guard }], guard := some (9, true) }) (v := ?v4_12) (by kernel_rfl) (by kernel_rfl) (by kernel_rfl) (by kernel_rfl) (fun _ _ _ h => h) (Or.inl ⟨by kernel_rfl, ?h4_12⟩) hHeld ?r4_12
              case h4_12 => (intro w hSw; (try dsimp only at hSw); go_simp; try with_reducible rfl)
              try simp only [Act.put, List.setIfInBounds_toArray, List.set_cons_zero, List.set_cons_succ]
              refine wpAnyH_take (i := 13) (oi := { dst := some 23, op := Op.indexAddr 42 (Operand.tmp 20) (Operand.tmp 22), type := 0, pos := "ref.go:92", after := #[{ on := 10, ground := Ground.data }, { on := 12, ground := Ground.data }, { on := 9, ground := Ground.guard }], guard := some (9, true) }) (v := ?v4_13) (by kernel_rfl) (by kernel_rfl) (by kernel_rfl) (by kernel_rfl) (fun _ _ _ h => h) (Or.inl ⟨by kernel_rfl, ?h4_13⟩) hHeld ?r4_13
              case h4_13 => (intro w hSw; (try dsimp only at hSw); go_simp; try with_reducible rfl)
              try simp only [Act.put, List.setIfInBounds_toArray, List.set_cons_zero, List.set_cons_succ]
              refine wpAnyH_take (i := 14) (oi := { dst := some 24, op := Op.load 46 (Operand.tmp 23), type := 46, pos := "ref.go:92", after := #[{ on := 13, ground := Ground.data }, { on := 9, ground := Ground.guard }], guard := some (9, true) }) (v := ?v4_14) (by kernel_rfl) (by kernel_rfl) (by kernel_rfl) (by kernel_rfl) (fun _ _ _ h => h) (Or.inl ⟨by kernel_rfl, ?h4_14⟩) hHeld ?r4_14
              case h4_14 => (intro w hSw; (try dsimp only at hSw); go_simp; try with_reducible rfl)
              try simp only [Act.put, List.setIfInBounds_toArray, List.set_cons_zero, List.set_cons_succ]
              refine wpAnyH_take (i := 15) (oi := { dst := some 25, op := Op.move (Operand.tmp 0), type := 42, pos := "ref.go:92", after := #[{ on := 9, ground := Ground.guard }], guard := some (9, true) }) (v := ?v4_15) (by kernel_rfl) (by kernel_rfl) (by kernel_rfl) (by kernel_rfl) (fun _ _ _ h => h) (Or.inl ⟨by kernel_rfl, ?h4_15⟩) hHeld ?r4_15
              case h4_15 => (intro w hSw; (try dsimp only at hSw); go_simp; try with_reducible rfl)
              try simp only [Act.put, List.setIfInBounds_toArray, List.set_cons_zero, List.set_cons_succ]
              refine wpAnyH_take (i := 16) (oi := { dst := some 26, op := Op.move (Operand.tmp 3), type := 3, pos := "ref.go:92", after := #[{ on := 9, ground := Ground.guard }], guard := some (9, true) }) (v := ?v4_16) (by kernel_rfl) (by kernel_rfl) (by kernel_rfl) (by kernel_rfl) (fun _ _ _ h => h) (Or.inl ⟨by kernel_rfl, ?h4_16⟩) hHeld ?r4_16
              case h4_16 => (intro w hSw; (try dsimp only at hSw); go_simp; try with_reducible rfl)
              try simp only [Act.put, List.setIfInBounds_toArray, List.set_cons_zero, List.set_cons_succ]
              refine wpAnyH_take (i := 17) (oi := { dst := some 27, op := Op.indexAddr 42 (Operand.tmp 25) (Operand.tmp 26), type := 0, pos := "ref.go:92", after := #[{ on := 15, ground := Ground.data }, { on := 16, ground := Ground.data }, { on := 9, ground := Ground.guard }], guard := some (9, true) }) (v := ?v4_17) (by kernel_rfl) (by kernel_rfl) (by kernel_rfl) (by kernel_rfl) (fun _ _ _ h => h) (Or.inl ⟨by kernel_rfl, ?h4_17⟩) hHeld ?r4_17
              case h4_17 => (intro w hSw; (try dsimp only at hSw); go_simp; try with_reducible rfl)
              try simp only [Act.put, List.setIfInBounds_toArray, List.set_cons_zero, List.set_cons_succ]
              refine wpAnyH_take (i := 18) (oi := { dst := some 28, op := Op.load 46 (Operand.tmp 27), type := 46, pos := "ref.go:92", after := #[{ on := 17, ground := Ground.data }, { on := 9, ground := Ground.guard }], guard := some (9, true) }) (v := ?v4_18) (by kernel_rfl) (by kernel_rfl) (by kernel_rfl) (by kernel_rfl) (fun _ _ _ h => h) (Or.inl ⟨by kernel_rfl, ?h4_18⟩) hHeld ?r4_18
              case h4_18 => (intro w hSw; (try dsimp only at hSw); go_simp; try with_reducible rfl)
              try simp only [Act.put, List.setIfInBounds_toArray, List.set_cons_zero, List.set_cons_succ]
              refine wpAnyH_ready (rs := [19]) (by kernel_rfl) (by simp) ?_
              refine AllReadyH.cons (i := 19) (o := { dst := some 29, op := Op.call { callee := Callee.value (Operand.func 50), args := #[Operand.tmp 24, Operand.tmp 28], argTypes := #[46, 46] }, type := 4, pos := "ref.go:92", after := #[{ on := 14, ground := Ground.data }, { on := 18, ground := Ground.data }, { on := 9, ground := Ground.chain }, { on := 9, ground := Ground.guard }], guard := some (9, true) }) rfl (fun K hK => ?_) AllReadyH.nil
              go_simp
              refine (rahead_any (qx, qc, qy) (ex, ec, esy) _).mono ?_
              rintro e' w2 ⟨rfl, hb2⟩
              rw [HCD.out]
              go_wp2_with fail
              refine hK.out _ _ (by exact keep7 (by assumption) (by assumption)) (fun hHeld => ?_)
              clear hK K
              try simp only [Act.put, List.setIfInBounds_toArray, List.set_cons_zero, List.set_cons_succ]
              refine wpAnyH_take (i := 20) (oi := { dst := some 30, op := Op.unOp UnOp.not 4 (Operand.tmp 29), type := 4, pos := "ref.go:92", after := #[{ on := 19, ground := Ground.data }, { on := 9, ground := Ground.guard }], guard := some (9, true) }) (v := ?v4_20) (by kernel_rfl) (by kernel_rfl) (by kernel_rfl) (by kernel_rfl) (fun _ _ _ h => h) (Or.inl ⟨by kernel_rfl, ?h4_20⟩) hHeld ?r4_20
              case h4_20 => (intro w hSw; (try dsimp only at hSw); go_simp; try with_reducible rfl)
              try simp only [Act.put, List.setIfInBounds_toArray, List.set_cons_zero, List.set_cons_succ]
              refine wpAnyH_take (i := 21) (oi := { dst := some 31, op := Op.pick (Operand.tmp 19) (Operand.tmp 30) (Operand.const (Value.bool false)), type := 4, pos := "ref.go:92", after := #[{ on := 9, ground := Ground.data }, { on := 20, ground := Ground.data }, { on := 6, ground := Ground.guard }], guard := some (6, false) }) (v := ?v4_21) (by kernel_rfl) (by kernel_rfl) (by kernel_rfl) (by kernel_rfl) (fun _ _ _ h => h) (Or.inl ⟨by kernel_rfl, ?h4_21⟩) hHeld ?r4_21
              case h4_21 => (intro w hSw; (try dsimp only at hSw); go_simp; try with_reducible rfl)
              try simp only [Act.put, List.setIfInBounds_toArray, List.set_cons_zero, List.set_cons_succ]
              refine wpAnyH_take (i := 22) (oi := { dst := some 32, op := Op.pick (Operand.tmp 16) (Operand.const (Value.bool true)) (Operand.tmp 31), type := 4, pos := "ref.go:92", after := #[{ on := 6, ground := Ground.data }, { on := 21, ground := Ground.data }], guard := none }) (v := ?v4_22) (by kernel_rfl) (by kernel_rfl) (by kernel_rfl) (by kernel_rfl) (fun _ _ _ h => h) (Or.inl ⟨by kernel_rfl, ?h4_22⟩) hHeld ?r4_22
              case h4_22 => (intro w hSw; (try dsimp only at hSw); go_simp; try with_reducible rfl)
              try simp only [Act.put, List.setIfInBounds_toArray, List.set_cons_zero, List.set_cons_succ]
              refine wpAnyH_take (i := 23) (oi := { dst := some 33, op := Op.move (Operand.tmp 32), type := 4, pos := "ref.go:92", after := #[{ on := 22, ground := Ground.data }, { on := 19, ground := Ground.chain }], guard := none }) (v := ?v4_23) (by kernel_rfl) (by kernel_rfl) (by kernel_rfl) (by kernel_rfl) (fun _ _ _ h => h) (Or.inl ⟨by kernel_rfl, ?h4_23⟩) hHeld ?r4_23
              case h4_23 => (intro w hSw; (try dsimp only at hSw); go_simp; try with_reducible rfl)
              try simp only [Act.put, List.setIfInBounds_toArray, List.set_cons_zero, List.set_cons_succ]
              refine wpAnyH_take (i := 24) (oi := { dst := some 34, op := Op.move (Operand.tmp 0), type := 42, pos := "ref.go:92", after := #[{ on := 23, ground := Ground.guard }], guard := some (23, false) }) (v := ?v4_24) (by kernel_rfl) (by kernel_rfl) (by kernel_rfl) (by kernel_rfl) (fun _ _ _ h => h) (Or.inl ⟨by kernel_rfl, ?h4_24⟩) hHeld ?r4_24
              case h4_24 => (intro w hSw; (try dsimp only at hSw); go_simp; try with_reducible rfl)
              try simp only [Act.put, List.setIfInBounds_toArray, List.set_cons_zero, List.set_cons_succ]
              refine wpAnyH_take (i := 25) (oi := { dst := some 35, op := Op.move (Operand.tmp 0), type := 42, pos := "ref.go:92", after := #[{ on := 23, ground := Ground.guard }], guard := some (23, false) }) (v := ?v4_25) (by kernel_rfl) (by kernel_rfl) (by kernel_rfl) (by kernel_rfl) (fun _ _ _ h => h) (Or.inl ⟨by kernel_rfl, ?h4_25⟩) hHeld ?r4_25
              case h4_25 => (intro w hSw; (try dsimp only at hSw); go_simp; try with_reducible rfl)
              try simp only [Act.put, List.setIfInBounds_toArray, List.set_cons_zero, List.set_cons_succ]
              refine wpAnyH_take (i := 26) (oi := { dst := some 36, op := Op.move (Operand.tmp 3), type := 3, pos := "ref.go:92", after := #[{ on := 23, ground := Ground.guard }], guard := some (23, false) }) (v := ?v4_26) (by kernel_rfl) (by kernel_rfl) (by kernel_rfl) (by kernel_rfl) (fun _ _ _ h => h) (Or.inl ⟨by kernel_rfl, ?h4_26⟩) hHeld ?r4_26
              case h4_26 => (intro w hSw; (try dsimp only at hSw); go_simp; try with_reducible rfl)
              try simp only [Act.put, List.setIfInBounds_toArray, List.set_cons_zero, List.set_cons_succ]
              refine wpAnyH_take (i := 27) (oi := { dst := some 37, op := Op.indexAddr 42 (Operand.tmp 35) (Operand.tmp 36), type := 0, pos := "ref.go:92", after := #[{ on := 25, ground := Ground.data }, { on := 26, ground := Ground.data }, { on := 23, ground := Ground.guard }], guard := some (23, false) }) (v := ?v4_27) (by kernel_rfl) (by kernel_rfl) (by kernel_rfl) (by kernel_rfl) (fun _ _ _ h => h) (Or.inl ⟨by kernel_rfl, ?h4_27⟩) hHeld ?r4_27
              case h4_27 => (intro w hSw; (try dsimp only at hSw); go_simp; try with_reducible rfl)
              try simp only [Act.put, List.setIfInBounds_toArray, List.set_cons_zero, List.set_cons_succ]
              refine wpAnyH_take (i := 28) (oi := { dst := some 38, op := Op.load 46 (Operand.tmp 37), type := 46, pos := "ref.go:92", after := #[{ on := 27, ground := Ground.data }, { on := 23, ground := Ground.guard }], guard := some (23, false) }) (v := ?v4_28) (by kernel_rfl) (by kernel_rfl) (by kernel_rfl) (by kernel_rfl) (fun _ _ _ h => h) (Or.inl ⟨by kernel_rfl, ?h4_28⟩) hHeld ?r4_28
              case h4_28 => (intro w hSw; (try dsimp only at hSw); go_simp; try with_reducible rfl)
              try simp only [Act.put, List.setIfInBounds_toArray, List.set_cons_zero, List.set_cons_succ]
              refine wpAnyH_ready (rs := [29]) (by kernel_rfl) (by simp) ?_
              refine AllReadyH.cons (i := 29) (o := { dst := some 39, op := Op.call { callee := Callee.value (Operand.func 51), args := #[Operand.tmp 34, Operand.tmp 38], argTypes := #[42, 46] }, type := 4, pos := "ref.go:92", after := #[{ on := 24, ground := Ground.data }, { on := 28, ground := Ground.data }, { on := 23, ground := Ground.chain }, { on := 23, ground := Ground.guard }], guard := some (23, false) }) rfl (fun K hK => ?_) AllReadyH.nil
              go_simp
              refine (rclash_any l (ex, ec, esy) _ c _ hl ((HR.out).later hHeld.2.2.2.2.1)).mono ?_
              rintro e' w3 ⟨rfl, hb3⟩
              rw [HK.out]
              go_wp2_with fail
              refine hK.out _ _ (by exact keep7 (by assumption) (by assumption)) (fun hHeld => ?_)
              clear hK K
              try simp only [Act.put, List.setIfInBounds_toArray, List.set_cons_zero, List.set_cons_succ]
              refine wpAnyH_take (i := 30) (oi := { dst := some 40, op := Op.pick (Operand.tmp 33) (Operand.const (Value.bool true)) (Operand.tmp 39), type := 4, pos := "ref.go:92", after := #[{ on := 23, ground := Ground.data }, { on := 29, ground := Ground.data }], guard := none }) (v := ?v4_30) (by kernel_rfl) (by kernel_rfl) (by kernel_rfl) (by kernel_rfl) (fun _ _ _ h => h) (Or.inl ⟨by kernel_rfl, ?h4_30⟩) hHeld ?r4_30
              case h4_30 => (intro w hSw; (try dsimp only at hSw); go_simp; try with_reducible rfl)
              try simp only [Act.put, List.setIfInBounds_toArray, List.set_cons_zero, List.set_cons_succ]
              refine wpAnyH_done (by kernel_rfl) ?_ _
              all_goals clear hwj
              all_goals go_wp2_with fail
              first
              | go_roundw
                case rel => exact ⟨j + 1 + 1, by omega, by go_num, hHeld.2.2.2.2.1, HNO.out.succ (by show (!okRt l (j + 1)) = false; rw [okRt_eq hlt HE.out, HOK.out, HK.out]; rfl)⟩
                case measure => simp [intOf]; omega
              | go_ret
                exact ⟨ret_bool (rvalid_bad hlt (by rw [okRt_eq hlt HE.out, HOK.out, HK.out]; rfl)).symm, hHeld.2.2.2.2.1⟩
            · have HK := Lib.hid hany; clear hany
              go_wp2_with fail
              refine wp_region_held_drew (S := fun W => S7 w W b (off + (j + 1) * 3) (ex, ec, esy) (off + j * 3) (qx, qc, qy)) (by kernel_rfl) (by exact start7 hS) (fun hHeld => ?_)
              refine wpAnyH_take (i := 0) (oi := { dst := some 10, op := Op.move (Operand.tmp 0), type := 42, pos := "ref.go:92", after := #[], guard := none }) (v := ?v5_0) (by kernel_rfl) (by kernel_rfl) (by kernel_rfl) (by kernel_rfl) (fun _ _ _ h => h) (Or.inl ⟨by kernel_rfl, ?h5_0⟩) hHeld ?r5_0
              case h5_0 => (intro w hSw; (try dsimp only at hSw); go_simp; try with_reducible rfl)
              try simp only [Act.put, List.setIfInBounds_toArray, List.set_cons_zero, List.set_cons_succ]
              refine wpAnyH_take (i := 1) (oi := { dst := some 11, op := Op.move (Operand.tmp 3), type := 3, pos := "ref.go:92", after := #[], guard := none }) (v := ?v5_1) (by kernel_rfl) (by kernel_rfl) (by kernel_rfl) (by kernel_rfl) (fun _ _ _ h => h) (Or.inl ⟨by kernel_rfl, ?h5_1⟩) hHeld ?r5_1
              case h5_1 => (intro w hSw; (try dsimp only at hSw); go_simp; try with_reducible rfl)
              try simp only [Act.put, List.setIfInBounds_toArray, List.set_cons_zero, List.set_cons_succ]
              refine wpAnyH_take (i := 2) (oi := { dst := some 12, op := Op.indexAddr 42 (Operand.tmp 10) (Operand.tmp 11), type := 0, pos := "ref.go:92", after := #[{ on := 0, ground := Ground.data }, { on := 1, ground := Ground.data }], guard := none }) (v := ?v5_2) (by kernel_rfl) (by kernel_rfl) (by kernel_rfl) (by kernel_rfl) (fun _ _ _ h => h) (Or.inl ⟨by kernel_rfl, ?h5_2⟩) hHeld ?r5_2
              case h5_2 => (intro w hSw; (try dsimp only at hSw); go_simp; try with_reducible rfl)
              try simp only [Act.put, List.setIfInBounds_toArray, List.set_cons_zero, List.set_cons_succ]
              refine wpAnyH_take (i := 3) (oi := { dst := some 13, op := Op.load 46 (Operand.tmp 12), type := 46, pos := "ref.go:92", after := #[{ on := 2, ground := Ground.data }], guard := none }) (v := ?v5_3) (by kernel_rfl) (by kernel_rfl) (by kernel_rfl) (by kernel_rfl) (fun _ _ _ h => h) (Or.inl ⟨by kernel_rfl, ?h5_3⟩) hHeld ?r5_3
              case h5_3 => (intro w hSw; (try dsimp only at hSw); go_simp; try with_reducible rfl)
              try simp only [Act.put, List.setIfInBounds_toArray, List.set_cons_zero, List.set_cons_succ]
              refine wpAnyH_ready (rs := [4]) (by kernel_rfl) (by simp) ?_
              refine AllReadyH.cons (i := 4) (o := { dst := some 14, op := Op.call { callee := Callee.value (Operand.func 25), args := #[Operand.tmp 13], argTypes := #[46] }, type := 4, pos := "ref.go:92", after := #[{ on := 3, ground := Ground.data }], guard := none }) rfl (fun K hK => ?_) AllReadyH.nil
              go_simp
              refine (rright_any _ _ _ _ hxl hyl).mono ?_
              rintro e' w1 ⟨rfl, hb1⟩
              rw [HRT.out]
              go_wp2_with fail
              refine hK.out _ _ (by exact keep7 (by assumption) (by assumption)) (fun hHeld => ?_)
              clear hK K
              try simp only [Act.put, List.setIfInBounds_toArray, List.set_cons_zero, List.set_cons_succ]
              refine wpAnyH_take (i := 5) (oi := { dst := some 15, op := Op.unOp UnOp.not 4 (Operand.tmp 14), type := 4, pos := "ref.go:92", after := #[{ on := 4, ground := Ground.data }], guard := none }) (v := ?v5_5) (by kernel_rfl) (by kernel_rfl) (by kernel_rfl) (by kernel_rfl) (fun _ _ _ h => h) (Or.inl ⟨by kernel_rfl, ?h5_5⟩) hHeld ?r5_5
              case h5_5 => (intro w hSw; (try dsimp only at hSw); go_simp; try with_reducible rfl)
              try simp only [Act.put, List.setIfInBounds_toArray, List.set_cons_zero, List.set_cons_succ]
              refine wpAnyH_take (i := 6) (oi := { dst := some 16, op := Op.move (Operand.tmp 15), type := 4, pos := "ref.go:92", after := #[{ on := 5, ground := Ground.data }, { on := 4, ground := Ground.chain }], guard := none }) (v := ?v5_6) (by kernel_rfl) (by kernel_rfl) (by kernel_rfl) (by kernel_rfl) (fun _ _ _ h => h) (Or.inl ⟨by kernel_rfl, ?h5_6⟩) hHeld ?r5_6
              case h5_6 => (intro w hSw; (try dsimp only at hSw); go_simp; try with_reducible rfl)
              try simp only [Act.put, List.setIfInBounds_toArray, List.set_cons_zero, List.set_cons_succ]
              refine wpAnyH_take (i := 7) (oi := { dst := some 17, op := Op.move (Operand.tmp 3), type := 3, pos := "ref.go:92", after := #[{ on := 6, ground := Ground.guard }], guard := some (6, false) }) (v := ?v5_7) (by kernel_rfl) (by kernel_rfl) (by kernel_rfl) (by kernel_rfl) (fun _ _ _ h => h) (Or.inl ⟨by kernel_rfl, ?h5_7⟩) hHeld ?r5_7
              case h5_7 => (intro w hSw; (try dsimp only at hSw); go_simp; try with_reducible rfl)
              try simp only [Act.put, List.setIfInBounds_toArray, List.set_cons_zero, List.set_cons_succ]
              refine wpAnyH_take (i := 8) (oi := { dst := some 18, op := Op.binOp BinOp.gtr 3 (Operand.tmp 17) (Operand.const (Value.int IntKind.i64 0)) 3, type := 4, pos := "ref.go:92", after := #[{ on := 7, ground := Ground.data }, { on := 6, ground := Ground.guard }], guard := some (6, false) }) (v := ?v5_8) (by kernel_rfl) (by kernel_rfl) (by kernel_rfl) (by kernel_rfl) (fun _ _ _ h => h) (Or.inl ⟨by kernel_rfl, ?h5_8⟩) hHeld ?r5_8
              case h5_8 => (intro w hSw; (try dsimp only at hSw); go_simp; try with_reducible rfl)
              try simp only [Act.put, List.setIfInBounds_toArray, List.set_cons_zero, List.set_cons_succ]
              refine wpAnyH_take (i := 9) (oi := { dst := some 19, op := Op.move (Operand.tmp 18), type := 4, pos := "ref.go:92", after := #[{ on := 8, ground := Ground.data }, { on := 6, ground := Ground.chain }, { on := 6, ground := Ground.guard }], guard := some (6, false) }) (v := ?v5_9) (by kernel_rfl) (by kernel_rfl) (by kernel_rfl) (by kernel_rfl) (fun _ _ _ h => h) (Or.inl ⟨by kernel_rfl, ?h5_9⟩) hHeld ?r5_9
              case h5_9 => (intro w hSw; (try dsimp only at hSw); go_simp; try with_reducible rfl)
              try simp only [Act.put, List.setIfInBounds_toArray, List.set_cons_zero, List.set_cons_succ]
              refine wpAnyH_take (i := 10) (oi := { dst := some 20, op := Op.move (Operand.tmp 0), type := 42, pos := "ref.go:92", after := #[{ on := 9, ground := Ground.guard }], guard := some (9, true) }) (v := ?v5_10) (by kernel_rfl) (by kernel_rfl) (by kernel_rfl) (by kernel_rfl) (fun _ _ _ h => h) (Or.inl ⟨by kernel_rfl, ?h5_10⟩) hHeld ?r5_10
              case h5_10 => (intro w hSw; (try dsimp only at hSw); go_simp; try with_reducible rfl)
              try simp only [Act.put, List.setIfInBounds_toArray, List.set_cons_zero, List.set_cons_succ]
              refine wpAnyH_take (i := 11) (oi := { dst := some 21, op := Op.move (Operand.tmp 3), type := 3, pos := "ref.go:92", after := #[{ on := 9, ground := Ground.guard }], guard := some (9, true) }) (v := ?v5_11) (by kernel_rfl) (by kernel_rfl) (by kernel_rfl) (by kernel_rfl) (fun _ _ _ h => h) (Or.inl ⟨by kernel_rfl, ?h5_11⟩) hHeld ?r5_11
              case h5_11 => (intro w hSw; (try dsimp only at hSw); go_simp; try with_reducible rfl)
              try simp only [Act.put, List.setIfInBounds_toArray, List.set_cons_zero, List.set_cons_succ]
              refine wpAnyH_take (i := 12) (oi := { dst := some 22, op := Op.binOp BinOp.sub 3 (Operand.tmp 21) (Operand.const (Value.int IntKind.i64 1)) 3, type := 3, pos := "ref.go:92", after := #[{ on := 11, ground := Ground.data }, { on := 9, ground := Ground.guard }], guard := some (9, true) }) (v := ?v5_12) (by kernel_rfl) (by kernel_rfl) (by kernel_rfl) (by kernel_rfl) (fun _ _ _ h => h) (Or.inl ⟨by kernel_rfl, ?h5_12⟩) hHeld ?r5_12
              case h5_12 => (intro w hSw; (try dsimp only at hSw); go_simp; try with_reducible rfl)
              try simp only [Act.put, List.setIfInBounds_toArray, List.set_cons_zero, List.set_cons_succ]
              refine wpAnyH_take (i := 13) (oi := { dst := some 23, op := Op.indexAddr 42 (Operand.tmp 20) (Operand.tmp 22), type := 0, pos := "ref.go:92", after := #[{ on := 10, ground := Ground.data }, { on := 12, ground := Ground.data }, { on := 9, ground := Ground.guard }], guard := some (9, true) }) (v := ?v5_13) (by kernel_rfl) (by kernel_rfl) (by kernel_rfl) (by kernel_rfl) (fun _ _ _ h => h) (Or.inl ⟨by kernel_rfl, ?h5_13⟩) hHeld ?r5_13
              case h5_13 => (intro w hSw; (try dsimp only at hSw); go_simp; try with_reducible rfl)
              try simp only [Act.put, List.setIfInBounds_toArray, List.set_cons_zero, List.set_cons_succ]
              refine wpAnyH_take (i := 14) (oi := { dst := some 24, op := Op.load 46 (Operand.tmp 23), type := 46, pos := "ref.go:92", after := #[{ on := 13, ground := Ground.data }, { on := 9, ground := Ground.guard }], guard := some (9, true) }) (v := ?v5_14) (by kernel_rfl) (by kernel_rfl) (by kernel_rfl) (by kernel_rfl) (fun _ _ _ h => h) (Or.inl ⟨by kernel_rfl, ?h5_14⟩) hHeld ?r5_14
              case h5_14 => (intro w hSw; (try dsimp only at hSw); go_simp; try with_reducible rfl)
              try simp only [Act.put, List.setIfInBounds_toArray, List.set_cons_zero, List.set_cons_succ]
              refine wpAnyH_take (i := 15) (oi := { dst := some 25, op := Op.move (Operand.tmp 0), type := 42, pos := "ref.go:92", after := #[{ on := 9, ground := Ground.guard }], guard := some (9, true) }) (v := ?v5_15) (by kernel_rfl) (by kernel_rfl) (by kernel_rfl) (by kernel_rfl) (fun _ _ _ h => h) (Or.inl ⟨by kernel_rfl, ?h5_15⟩) hHeld ?r5_15
              case h5_15 => (intro w hSw; (try dsimp only at hSw); go_simp; try with_reducible rfl)
              try simp only [Act.put, List.setIfInBounds_toArray, List.set_cons_zero, List.set_cons_succ]
              refine wpAnyH_take (i := 16) (oi := { dst := some 26, op := Op.move (Operand.tmp 3), type := 3, pos := "ref.go:92", after := #[{ on := 9, ground := Ground.guard }], guard := some (9, true) }) (v := ?v5_16) (by kernel_rfl) (by kernel_rfl) (by kernel_rfl) (by kernel_rfl) (fun _ _ _ h => h) (Or.inl ⟨by kernel_rfl, ?h5_16⟩) hHeld ?r5_16
              case h5_16 => (intro w hSw; (try dsimp only at hSw); go_simp; try with_reducible rfl)
              try simp only [Act.put, List.setIfInBounds_toArray, List.set_cons_zero, List.set_cons_succ]
              refine wpAnyH_take (i := 17) (oi := { dst := some 27, op := Op.indexAddr 42 (Operand.tmp 25) (Operand.tmp 26), type := 0, pos := "ref.go:92", after := #[{ on := 15, ground := Ground.data }, { on := 16, ground := Ground.data }, { on := 9, ground := Ground.guard }], guard := some (9, true) }) (v := ?v5_17) (by kernel_rfl) (by kernel_rfl) (by kernel_rfl) (by kernel_rfl) (fun _ _ _ h => h) (Or.inl ⟨by kernel_rfl, ?h5_17⟩) hHeld ?r5_17
              case h5_17 => (intro w hSw; (try dsimp only at hSw); go_simp; try with_reducible rfl)
              try simp only [Act.put, List.setIfInBounds_toArray, List.set_cons_zero, List.set_cons_succ]
              refine wpAnyH_take (i := 18) (oi := { dst := some 28, op := Op.load 46 (Operand.tmp 27), type := 46, pos := "ref.go:92", after := #[{ on := 17, ground := Ground.data }, { on := 9, ground := Ground.guard }], guard := some (9, true) }) (v := ?v5_18) (by kernel_rfl) (by kernel_rfl) (by kernel_rfl) (by kernel_rfl) (fun _ _ _ h => h) (Or.inl ⟨by kernel_rfl, ?h5_18⟩) hHeld ?r5_18
              case h5_18 => (intro w hSw; (try dsimp only at hSw); go_simp; try with_reducible rfl)
              try simp only [Act.put, List.setIfInBounds_toArray, List.set_cons_zero, List.set_cons_succ]
              refine wpAnyH_ready (rs := [19]) (by kernel_rfl) (by simp) ?_
              refine AllReadyH.cons (i := 19) (o := { dst := some 29, op := Op.call { callee := Callee.value (Operand.func 50), args := #[Operand.tmp 24, Operand.tmp 28], argTypes := #[46, 46] }, type := 4, pos := "ref.go:92", after := #[{ on := 14, ground := Ground.data }, { on := 18, ground := Ground.data }, { on := 9, ground := Ground.chain }, { on := 9, ground := Ground.guard }], guard := some (9, true) }) rfl (fun K hK => ?_) AllReadyH.nil
              go_simp
              refine (rahead_any (qx, qc, qy) (ex, ec, esy) _).mono ?_
              rintro e' w2 ⟨rfl, hb2⟩
              rw [HCD.out]
              go_wp2_with fail
              refine hK.out _ _ (by exact keep7 (by assumption) (by assumption)) (fun hHeld => ?_)
              clear hK K
              try simp only [Act.put, List.setIfInBounds_toArray, List.set_cons_zero, List.set_cons_succ]
              refine wpAnyH_take (i := 20) (oi := { dst := some 30, op := Op.unOp UnOp.not 4 (Operand.tmp 29), type := 4, pos := "ref.go:92", after := #[{ on := 19, ground := Ground.data }, { on := 9, ground := Ground.guard }], guard := some (9, true) }) (v := ?v5_20) (by kernel_rfl) (by kernel_rfl) (by kernel_rfl) (by kernel_rfl) (fun _ _ _ h => h) (Or.inl ⟨by kernel_rfl, ?h5_20⟩) hHeld ?r5_20
              case h5_20 => (intro w hSw; (try dsimp only at hSw); go_simp; try with_reducible rfl)
              try simp only [Act.put, List.setIfInBounds_toArray, List.set_cons_zero, List.set_cons_succ]
              refine wpAnyH_take (i := 21) (oi := { dst := some 31, op := Op.pick (Operand.tmp 19) (Operand.tmp 30) (Operand.const (Value.bool false)), type := 4, pos := "ref.go:92", after := #[{ on := 9, ground := Ground.data }, { on := 20, ground := Ground.data }, { on := 6, ground := Ground.guard }], guard := some (6, false) }) (v := ?v5_21) (by kernel_rfl) (by kernel_rfl) (by kernel_rfl) (by kernel_rfl) (fun _ _ _ h => h) (Or.inl ⟨by kernel_rfl, ?h5_21⟩) hHeld ?r5_21
              case h5_21 => (intro w hSw; (try dsimp only at hSw); go_simp; try with_reducible rfl)
              try simp only [Act.put, List.setIfInBounds_toArray, List.set_cons_zero, List.set_cons_succ]
              refine wpAnyH_take (i := 22) (oi := { dst := some 32, op := Op.pick (Operand.tmp 16) (Operand.const (Value.bool true)) (Operand.tmp 31), type := 4, pos := "ref.go:92", after := #[{ on := 6, ground := Ground.data }, { on := 21, ground := Ground.data }], guard := none }) (v := ?v5_22) (by kernel_rfl) (by kernel_rfl) (by kernel_rfl) (by kernel_rfl) (fun _ _ _ h => h) (Or.inl ⟨by kernel_rfl, ?h5_22⟩) hHeld ?r5_22
              case h5_22 => (intro w hSw; (try dsimp only at hSw); go_simp; try with_reducible rfl)
              try simp only [Act.put, List.setIfInBounds_toArray, List.set_cons_zero, List.set_cons_succ]
              refine wpAnyH_take (i := 23) (oi := { dst := some 33, op := Op.move (Operand.tmp 32), type := 4, pos := "ref.go:92", after := #[{ on := 22, ground := Ground.data }, { on := 19, ground := Ground.chain }], guard := none }) (v := ?v5_23) (by kernel_rfl) (by kernel_rfl) (by kernel_rfl) (by kernel_rfl) (fun _ _ _ h => h) (Or.inl ⟨by kernel_rfl, ?h5_23⟩) hHeld ?r5_23
              case h5_23 => (intro w hSw; (try dsimp only at hSw); go_simp; try with_reducible rfl)
              try simp only [Act.put, List.setIfInBounds_toArray, List.set_cons_zero, List.set_cons_succ]
              refine wpAnyH_take (i := 24) (oi := { dst := some 34, op := Op.move (Operand.tmp 0), type := 42, pos := "ref.go:92", after := #[{ on := 23, ground := Ground.guard }], guard := some (23, false) }) (v := ?v5_24) (by kernel_rfl) (by kernel_rfl) (by kernel_rfl) (by kernel_rfl) (fun _ _ _ h => h) (Or.inl ⟨by kernel_rfl, ?h5_24⟩) hHeld ?r5_24
              case h5_24 => (intro w hSw; (try dsimp only at hSw); go_simp; try with_reducible rfl)
              try simp only [Act.put, List.setIfInBounds_toArray, List.set_cons_zero, List.set_cons_succ]
              refine wpAnyH_take (i := 25) (oi := { dst := some 35, op := Op.move (Operand.tmp 0), type := 42, pos := "ref.go:92", after := #[{ on := 23, ground := Ground.guard }], guard := some (23, false) }) (v := ?v5_25) (by kernel_rfl) (by kernel_rfl) (by kernel_rfl) (by kernel_rfl) (fun _ _ _ h => h) (Or.inl ⟨by kernel_rfl, ?h5_25⟩) hHeld ?r5_25
              case h5_25 => (intro w hSw; (try dsimp only at hSw); go_simp; try with_reducible rfl)
              try simp only [Act.put, List.setIfInBounds_toArray, List.set_cons_zero, List.set_cons_succ]
              refine wpAnyH_take (i := 26) (oi := { dst := some 36, op := Op.move (Operand.tmp 3), type := 3, pos := "ref.go:92", after := #[{ on := 23, ground := Ground.guard }], guard := some (23, false) }) (v := ?v5_26) (by kernel_rfl) (by kernel_rfl) (by kernel_rfl) (by kernel_rfl) (fun _ _ _ h => h) (Or.inl ⟨by kernel_rfl, ?h5_26⟩) hHeld ?r5_26
              case h5_26 => (intro w hSw; (try dsimp only at hSw); go_simp; try with_reducible rfl)
              try simp only [Act.put, List.setIfInBounds_toArray, List.set_cons_zero, List.set_cons_succ]
              refine wpAnyH_take (i := 27) (oi := { dst := some 37, op := Op.indexAddr 42 (Operand.tmp 35) (Operand.tmp 36), type := 0, pos := "ref.go:92", after := #[{ on := 25, ground := Ground.data }, { on := 26, ground := Ground.data }, { on := 23, ground := Ground.guard }], guard := some (23, false) }) (v := ?v5_27) (by kernel_rfl) (by kernel_rfl) (by kernel_rfl) (by kernel_rfl) (fun _ _ _ h => h) (Or.inl ⟨by kernel_rfl, ?h5_27⟩) hHeld ?r5_27
              case h5_27 => (intro w hSw; (try dsimp only at hSw); go_simp; try with_reducible rfl)
              try simp only [Act.put, List.setIfInBounds_toArray, List.set_cons_zero, List.set_cons_succ]
              refine wpAnyH_take (i := 28) (oi := { dst := some 38, op := Op.load 46 (Operand.tmp 37), type := 46, pos := "ref.go:92", after := #[{ on := 27, ground := Ground.data }, { on := 23, ground := Ground.guard }], guard := some (23, false) }) (v := ?v5_28) (by kernel_rfl) (by kernel_rfl) (by kernel_rfl) (by kernel_rfl) (fun _ _ _ h => h) (Or.inl ⟨by kernel_rfl, ?h5_28⟩) hHeld ?r5_28
              case h5_28 => (intro w hSw; (try dsimp only at hSw); go_simp; try with_reducible rfl)
              try simp only [Act.put, List.setIfInBounds_toArray, List.set_cons_zero, List.set_cons_succ]
              refine wpAnyH_ready (rs := [29]) (by kernel_rfl) (by simp) ?_
              refine AllReadyH.cons (i := 29) (o := { dst := some 39, op := Op.call { callee := Callee.value (Operand.func 51), args := #[Operand.tmp 34, Operand.tmp 38], argTypes := #[42, 46] }, type := 4, pos := "ref.go:92", after := #[{ on := 24, ground := Ground.data }, { on := 28, ground := Ground.data }, { on := 23, ground := Ground.chain }, { on := 23, ground := Ground.guard }], guard := some (23, false) }) rfl (fun K hK => ?_) AllReadyH.nil
              go_simp
              refine (rclash_any l (ex, ec, esy) _ c _ hl ((HR.out).later hHeld.2.2.2.2.1)).mono ?_
              rintro e' w3 ⟨rfl, hb3⟩
              rw [HK.out]
              go_wp2_with fail
              refine hK.out _ _ (by exact keep7 (by assumption) (by assumption)) (fun hHeld => ?_)
              clear hK K
              try simp only [Act.put, List.setIfInBounds_toArray, List.set_cons_zero, List.set_cons_succ]
              refine wpAnyH_take (i := 30) (oi := { dst := some 40, op := Op.pick (Operand.tmp 33) (Operand.const (Value.bool true)) (Operand.tmp 39), type := 4, pos := "ref.go:92", after := #[{ on := 23, ground := Ground.data }, { on := 29, ground := Ground.data }], guard := none }) (v := ?v5_30) (by kernel_rfl) (by kernel_rfl) (by kernel_rfl) (by kernel_rfl) (fun _ _ _ h => h) (Or.inl ⟨by kernel_rfl, ?h5_30⟩) hHeld ?r5_30
              case h5_30 => (intro w hSw; (try dsimp only at hSw); go_simp; try with_reducible rfl)
              try simp only [Act.put, List.setIfInBounds_toArray, List.set_cons_zero, List.set_cons_succ]
              refine wpAnyH_done (by kernel_rfl) ?_ _
              all_goals clear hwj
              all_goals go_wp2_with fail
              first
              | go_roundw
                case rel => exact ⟨j + 1 + 1, by omega, by go_num, hHeld.2.2.2.2.1, HNO.out.succ (by show (!okRt l (j + 1)) = false; rw [okRt_eq hlt HE.out, HOK.out, HK.out]; rfl)⟩
                case measure => simp [intOf]; omega
              | go_ret
                exact ⟨ret_bool (rvalid_bad hlt (by rw [okRt_eq hlt HE.out, HOK.out, HK.out]; rfl)).symm, hHeld.2.2.2.2.1⟩
          · have hcd : decide (cmpL (qx, qc, qy) (ex, ec, esy) < 0) = false := decide_eq_false hcm
            have HCD := Lib.hid hcd; clear hcd
            have HOK := Lib.hid (okR_ahead (l := l) HRT.out HJ.out hcm)
            clear hcm
            go_wp2_with fail
            refine wp_region_held_drew (S := fun W => S7 w W b (off + (j + 1) * 3) (ex, ec, esy) (off + j * 3) (qx, qc, qy)) (by kernel_rfl) (by exact start7 hS) (fun hHeld => ?_)
            refine wpAnyH_take (i := 0) (oi := { dst := some 10, op := Op.move (Operand.tmp 0), type := 42, pos := "ref.go:92", after := #[], guard := none }) (v := ?v6_0) (by kernel_rfl) (by kernel_rfl) (by kernel_rfl) (by kernel_rfl) (fun _ _ _ h => h) (Or.inl ⟨by kernel_rfl, ?h6_0⟩) hHeld ?r6_0
            case h6_0 => (intro w hSw; (try dsimp only at hSw); go_simp; try with_reducible rfl)
            try simp only [Act.put, List.setIfInBounds_toArray, List.set_cons_zero, List.set_cons_succ]
            refine wpAnyH_take (i := 1) (oi := { dst := some 11, op := Op.move (Operand.tmp 3), type := 3, pos := "ref.go:92", after := #[], guard := none }) (v := ?v6_1) (by kernel_rfl) (by kernel_rfl) (by kernel_rfl) (by kernel_rfl) (fun _ _ _ h => h) (Or.inl ⟨by kernel_rfl, ?h6_1⟩) hHeld ?r6_1
            case h6_1 => (intro w hSw; (try dsimp only at hSw); go_simp; try with_reducible rfl)
            try simp only [Act.put, List.setIfInBounds_toArray, List.set_cons_zero, List.set_cons_succ]
            refine wpAnyH_take (i := 2) (oi := { dst := some 12, op := Op.indexAddr 42 (Operand.tmp 10) (Operand.tmp 11), type := 0, pos := "ref.go:92", after := #[{ on := 0, ground := Ground.data }, { on := 1, ground := Ground.data }], guard := none }) (v := ?v6_2) (by kernel_rfl) (by kernel_rfl) (by kernel_rfl) (by kernel_rfl) (fun _ _ _ h => h) (Or.inl ⟨by kernel_rfl, ?h6_2⟩) hHeld ?r6_2
            case h6_2 => (intro w hSw; (try dsimp only at hSw); go_simp; try with_reducible rfl)
            try simp only [Act.put, List.setIfInBounds_toArray, List.set_cons_zero, List.set_cons_succ]
            refine wpAnyH_take (i := 3) (oi := { dst := some 13, op := Op.load 46 (Operand.tmp 12), type := 46, pos := "ref.go:92", after := #[{ on := 2, ground := Ground.data }], guard := none }) (v := ?v6_3) (by kernel_rfl) (by kernel_rfl) (by kernel_rfl) (by kernel_rfl) (fun _ _ _ h => h) (Or.inl ⟨by kernel_rfl, ?h6_3⟩) hHeld ?r6_3
            case h6_3 => (intro w hSw; (try dsimp only at hSw); go_simp; try with_reducible rfl)
            try simp only [Act.put, List.setIfInBounds_toArray, List.set_cons_zero, List.set_cons_succ]
            refine wpAnyH_ready (rs := [4]) (by kernel_rfl) (by simp) ?_
            refine AllReadyH.cons (i := 4) (o := { dst := some 14, op := Op.call { callee := Callee.value (Operand.func 25), args := #[Operand.tmp 13], argTypes := #[46] }, type := 4, pos := "ref.go:92", after := #[{ on := 3, ground := Ground.data }], guard := none }) rfl (fun K hK => ?_) AllReadyH.nil
            go_simp
            refine (rright_any _ _ _ _ hxl hyl).mono ?_
            rintro e' w1 ⟨rfl, hb1⟩
            rw [HRT.out]
            go_wp2_with fail
            refine hK.out _ _ (by exact keep7 (by assumption) (by assumption)) (fun hHeld => ?_)
            clear hK K
            try simp only [Act.put, List.setIfInBounds_toArray, List.set_cons_zero, List.set_cons_succ]
            refine wpAnyH_take (i := 5) (oi := { dst := some 15, op := Op.unOp UnOp.not 4 (Operand.tmp 14), type := 4, pos := "ref.go:92", after := #[{ on := 4, ground := Ground.data }], guard := none }) (v := ?v6_5) (by kernel_rfl) (by kernel_rfl) (by kernel_rfl) (by kernel_rfl) (fun _ _ _ h => h) (Or.inl ⟨by kernel_rfl, ?h6_5⟩) hHeld ?r6_5
            case h6_5 => (intro w hSw; (try dsimp only at hSw); go_simp; try with_reducible rfl)
            try simp only [Act.put, List.setIfInBounds_toArray, List.set_cons_zero, List.set_cons_succ]
            refine wpAnyH_take (i := 6) (oi := { dst := some 16, op := Op.move (Operand.tmp 15), type := 4, pos := "ref.go:92", after := #[{ on := 5, ground := Ground.data }, { on := 4, ground := Ground.chain }], guard := none }) (v := ?v6_6) (by kernel_rfl) (by kernel_rfl) (by kernel_rfl) (by kernel_rfl) (fun _ _ _ h => h) (Or.inl ⟨by kernel_rfl, ?h6_6⟩) hHeld ?r6_6
            case h6_6 => (intro w hSw; (try dsimp only at hSw); go_simp; try with_reducible rfl)
            try simp only [Act.put, List.setIfInBounds_toArray, List.set_cons_zero, List.set_cons_succ]
            refine wpAnyH_take (i := 7) (oi := { dst := some 17, op := Op.move (Operand.tmp 3), type := 3, pos := "ref.go:92", after := #[{ on := 6, ground := Ground.guard }], guard := some (6, false) }) (v := ?v6_7) (by kernel_rfl) (by kernel_rfl) (by kernel_rfl) (by kernel_rfl) (fun _ _ _ h => h) (Or.inl ⟨by kernel_rfl, ?h6_7⟩) hHeld ?r6_7
            case h6_7 => (intro w hSw; (try dsimp only at hSw); go_simp; try with_reducible rfl)
            try simp only [Act.put, List.setIfInBounds_toArray, List.set_cons_zero, List.set_cons_succ]
            refine wpAnyH_take (i := 8) (oi := { dst := some 18, op := Op.binOp BinOp.gtr 3 (Operand.tmp 17) (Operand.const (Value.int IntKind.i64 0)) 3, type := 4, pos := "ref.go:92", after := #[{ on := 7, ground := Ground.data }, { on := 6, ground := Ground.guard }], guard := some (6, false) }) (v := ?v6_8) (by kernel_rfl) (by kernel_rfl) (by kernel_rfl) (by kernel_rfl) (fun _ _ _ h => h) (Or.inl ⟨by kernel_rfl, ?h6_8⟩) hHeld ?r6_8
            case h6_8 => (intro w hSw; (try dsimp only at hSw); go_simp; try with_reducible rfl)
            try simp only [Act.put, List.setIfInBounds_toArray, List.set_cons_zero, List.set_cons_succ]
            refine wpAnyH_take (i := 9) (oi := { dst := some 19, op := Op.move (Operand.tmp 18), type := 4, pos := "ref.go:92", after := #[{ on := 8, ground := Ground.data }, { on := 6, ground := Ground.chain }, { on := 6, ground := Ground.guard }], guard := some (6, false) }) (v := ?v6_9) (by kernel_rfl) (by kernel_rfl) (by kernel_rfl) (by kernel_rfl) (fun _ _ _ h => h) (Or.inl ⟨by kernel_rfl, ?h6_9⟩) hHeld ?r6_9
            case h6_9 => (intro w hSw; (try dsimp only at hSw); go_simp; try with_reducible rfl)
            try simp only [Act.put, List.setIfInBounds_toArray, List.set_cons_zero, List.set_cons_succ]
            refine wpAnyH_take (i := 10) (oi := { dst := some 20, op := Op.move (Operand.tmp 0), type := 42, pos := "ref.go:92", after := #[{ on := 9, ground := Ground.guard }], guard := some (9, true) }) (v := ?v6_10) (by kernel_rfl) (by kernel_rfl) (by kernel_rfl) (by kernel_rfl) (fun _ _ _ h => h) (Or.inl ⟨by kernel_rfl, ?h6_10⟩) hHeld ?r6_10
            case h6_10 => (intro w hSw; (try dsimp only at hSw); go_simp; try with_reducible rfl)
            try simp only [Act.put, List.setIfInBounds_toArray, List.set_cons_zero, List.set_cons_succ]
            refine wpAnyH_take (i := 11) (oi := { dst := some 21, op := Op.move (Operand.tmp 3), type := 3, pos := "ref.go:92", after := #[{ on := 9, ground := Ground.guard }], guard := some (9, true) }) (v := ?v6_11) (by kernel_rfl) (by kernel_rfl) (by kernel_rfl) (by kernel_rfl) (fun _ _ _ h => h) (Or.inl ⟨by kernel_rfl, ?h6_11⟩) hHeld ?r6_11
            case h6_11 => (intro w hSw; (try dsimp only at hSw); go_simp; try with_reducible rfl)
            try simp only [Act.put, List.setIfInBounds_toArray, List.set_cons_zero, List.set_cons_succ]
            refine wpAnyH_take (i := 12) (oi := { dst := some 22, op := Op.binOp BinOp.sub 3 (Operand.tmp 21) (Operand.const (Value.int IntKind.i64 1)) 3, type := 3, pos := "ref.go:92", after := #[{ on := 11, ground := Ground.data }, { on := 9, ground := Ground.guard }], guard := some (9, true) }) (v := ?v6_12) (by kernel_rfl) (by kernel_rfl) (by kernel_rfl) (by kernel_rfl) (fun _ _ _ h => h) (Or.inl ⟨by kernel_rfl, ?h6_12⟩) hHeld ?r6_12
            case h6_12 => (intro w hSw; (try dsimp only at hSw); go_simp; try with_reducible rfl)
            try simp only [Act.put, List.setIfInBounds_toArray, List.set_cons_zero, List.set_cons_succ]
            refine wpAnyH_take (i := 13) (oi := { dst := some 23, op := Op.indexAddr 42 (Operand.tmp 20) (Operand.tmp 22), type := 0, pos := "ref.go:92", after := #[{ on := 10, ground := Ground.data }, { on := 12, ground := Ground.data }, { on := 9, ground := Ground.guard }], guard := some (9, true) }) (v := ?v6_13) (by kernel_rfl) (by kernel_rfl) (by kernel_rfl) (by kernel_rfl) (fun _ _ _ h => h) (Or.inl ⟨by kernel_rfl, ?h6_13⟩) hHeld ?r6_13
            case h6_13 => (intro w hSw; (try dsimp only at hSw); go_simp; try with_reducible rfl)
            try simp only [Act.put, List.setIfInBounds_toArray, List.set_cons_zero, List.set_cons_succ]
            refine wpAnyH_take (i := 14) (oi := { dst := some 24, op := Op.load 46 (Operand.tmp 23), type := 46, pos := "ref.go:92", after := #[{ on := 13, ground := Ground.data }, { on := 9, ground := Ground.guard }], guard := some (9, true) }) (v := ?v6_14) (by kernel_rfl) (by kernel_rfl) (by kernel_rfl) (by kernel_rfl) (fun _ _ _ h => h) (Or.inl ⟨by kernel_rfl, ?h6_14⟩) hHeld ?r6_14
            case h6_14 => (intro w hSw; (try dsimp only at hSw); go_simp; try with_reducible rfl)
            try simp only [Act.put, List.setIfInBounds_toArray, List.set_cons_zero, List.set_cons_succ]
            refine wpAnyH_take (i := 15) (oi := { dst := some 25, op := Op.move (Operand.tmp 0), type := 42, pos := "ref.go:92", after := #[{ on := 9, ground := Ground.guard }], guard := some (9, true) }) (v := ?v6_15) (by kernel_rfl) (by kernel_rfl) (by kernel_rfl) (by kernel_rfl) (fun _ _ _ h => h) (Or.inl ⟨by kernel_rfl, ?h6_15⟩) hHeld ?r6_15
            case h6_15 => (intro w hSw; (try dsimp only at hSw); go_simp; try with_reducible rfl)
            try simp only [Act.put, List.setIfInBounds_toArray, List.set_cons_zero, List.set_cons_succ]
            refine wpAnyH_take (i := 16) (oi := { dst := some 26, op := Op.move (Operand.tmp 3), type := 3, pos := "ref.go:92", after := #[{ on := 9, ground := Ground.guard }], guard := some (9, true) }) (v := ?v6_16) (by kernel_rfl) (by kernel_rfl) (by kernel_rfl) (by kernel_rfl) (fun _ _ _ h => h) (Or.inl ⟨by kernel_rfl, ?h6_16⟩) hHeld ?r6_16
            case h6_16 => (intro w hSw; (try dsimp only at hSw); go_simp; try with_reducible rfl)
            try simp only [Act.put, List.setIfInBounds_toArray, List.set_cons_zero, List.set_cons_succ]
            refine wpAnyH_take (i := 17) (oi := { dst := some 27, op := Op.indexAddr 42 (Operand.tmp 25) (Operand.tmp 26), type := 0, pos := "ref.go:92", after := #[{ on := 15, ground := Ground.data }, { on := 16, ground := Ground.data }, { on := 9, ground := Ground.guard }], guard := some (9, true) }) (v := ?v6_17) (by kernel_rfl) (by kernel_rfl) (by kernel_rfl) (by kernel_rfl) (fun _ _ _ h => h) (Or.inl ⟨by kernel_rfl, ?h6_17⟩) hHeld ?r6_17
            case h6_17 => (intro w hSw; (try dsimp only at hSw); go_simp; try with_reducible rfl)
            try simp only [Act.put, List.setIfInBounds_toArray, List.set_cons_zero, List.set_cons_succ]
            refine wpAnyH_take (i := 18) (oi := { dst := some 28, op := Op.load 46 (Operand.tmp 27), type := 46, pos := "ref.go:92", after := #[{ on := 17, ground := Ground.data }, { on := 9, ground := Ground.guard }], guard := some (9, true) }) (v := ?v6_18) (by kernel_rfl) (by kernel_rfl) (by kernel_rfl) (by kernel_rfl) (fun _ _ _ h => h) (Or.inl ⟨by kernel_rfl, ?h6_18⟩) hHeld ?r6_18
            case h6_18 => (intro w hSw; (try dsimp only at hSw); go_simp; try with_reducible rfl)
            try simp only [Act.put, List.setIfInBounds_toArray, List.set_cons_zero, List.set_cons_succ]
            refine wpAnyH_ready (rs := [19]) (by kernel_rfl) (by simp) ?_
            refine AllReadyH.cons (i := 19) (o := { dst := some 29, op := Op.call { callee := Callee.value (Operand.func 50), args := #[Operand.tmp 24, Operand.tmp 28], argTypes := #[46, 46] }, type := 4, pos := "ref.go:92", after := #[{ on := 14, ground := Ground.data }, { on := 18, ground := Ground.data }, { on := 9, ground := Ground.chain }, { on := 9, ground := Ground.guard }], guard := some (9, true) }) rfl (fun K hK => ?_) AllReadyH.nil
            go_simp
            refine (rahead_any (qx, qc, qy) (ex, ec, esy) _).mono ?_
            rintro e' w2 ⟨rfl, hb2⟩
            rw [HCD.out]
            go_wp2_with fail
            refine hK.out _ _ (by exact keep7 (by assumption) (by assumption)) (fun hHeld => ?_)
            clear hK K
            try simp only [Act.put, List.setIfInBounds_toArray, List.set_cons_zero, List.set_cons_succ]
            refine wpAnyH_take (i := 20) (oi := { dst := some 30, op := Op.unOp UnOp.not 4 (Operand.tmp 29), type := 4, pos := "ref.go:92", after := #[{ on := 19, ground := Ground.data }, { on := 9, ground := Ground.guard }], guard := some (9, true) }) (v := ?v6_20) (by kernel_rfl) (by kernel_rfl) (by kernel_rfl) (by kernel_rfl) (fun _ _ _ h => h) (Or.inl ⟨by kernel_rfl, ?h6_20⟩) hHeld ?r6_20
            case h6_20 => (intro w hSw; (try dsimp only at hSw); go_simp; try with_reducible rfl)
            try simp only [Act.put, List.setIfInBounds_toArray, List.set_cons_zero, List.set_cons_succ]
            refine wpAnyH_take (i := 21) (oi := { dst := some 31, op := Op.pick (Operand.tmp 19) (Operand.tmp 30) (Operand.const (Value.bool false)), type := 4, pos := "ref.go:92", after := #[{ on := 9, ground := Ground.data }, { on := 20, ground := Ground.data }, { on := 6, ground := Ground.guard }], guard := some (6, false) }) (v := ?v6_21) (by kernel_rfl) (by kernel_rfl) (by kernel_rfl) (by kernel_rfl) (fun _ _ _ h => h) (Or.inl ⟨by kernel_rfl, ?h6_21⟩) hHeld ?r6_21
            case h6_21 => (intro w hSw; (try dsimp only at hSw); go_simp; try with_reducible rfl)
            try simp only [Act.put, List.setIfInBounds_toArray, List.set_cons_zero, List.set_cons_succ]
            refine wpAnyH_take (i := 22) (oi := { dst := some 32, op := Op.pick (Operand.tmp 16) (Operand.const (Value.bool true)) (Operand.tmp 31), type := 4, pos := "ref.go:92", after := #[{ on := 6, ground := Ground.data }, { on := 21, ground := Ground.data }], guard := none }) (v := ?v6_22) (by kernel_rfl) (by kernel_rfl) (by kernel_rfl) (by kernel_rfl) (fun _ _ _ h => h) (Or.inl ⟨by kernel_rfl, ?h6_22⟩) hHeld ?r6_22
            case h6_22 => (intro w hSw; (try dsimp only at hSw); go_simp; try with_reducible rfl)
            try simp only [Act.put, List.setIfInBounds_toArray, List.set_cons_zero, List.set_cons_succ]
            refine wpAnyH_take (i := 23) (oi := { dst := some 33, op := Op.move (Operand.tmp 32), type := 4, pos := "ref.go:92", after := #[{ on := 22, ground := Ground.data }, { on := 19, ground := Ground.chain }], guard := none }) (v := ?v6_23) (by kernel_rfl) (by kernel_rfl) (by kernel_rfl) (by kernel_rfl) (fun _ _ _ h => h) (Or.inl ⟨by kernel_rfl, ?h6_23⟩) hHeld ?r6_23
            case h6_23 => (intro w hSw; (try dsimp only at hSw); go_simp; try with_reducible rfl)
            try simp only [Act.put, List.setIfInBounds_toArray, List.set_cons_zero, List.set_cons_succ]
            refine wpAnyH_take (i := 24) (oi := { dst := some 34, op := Op.move (Operand.tmp 0), type := 42, pos := "ref.go:92", after := #[{ on := 23, ground := Ground.guard }], guard := some (23, false) }) (v := undef) (by kernel_rfl) (by kernel_rfl) (by kernel_rfl) (by kernel_rfl) (fun _ _ _ h => h) (Or.inr ⟨by kernel_rfl, rfl⟩) hHeld ?_
            try simp only [Act.put, List.setIfInBounds_toArray, List.set_cons_zero, List.set_cons_succ]
            refine wpAnyH_take (i := 25) (oi := { dst := some 35, op := Op.move (Operand.tmp 0), type := 42, pos := "ref.go:92", after := #[{ on := 23, ground := Ground.guard }], guard := some (23, false) }) (v := undef) (by kernel_rfl) (by kernel_rfl) (by kernel_rfl) (by kernel_rfl) (fun _ _ _ h => h) (Or.inr ⟨by kernel_rfl, rfl⟩) hHeld ?_
            try simp only [Act.put, List.setIfInBounds_toArray, List.set_cons_zero, List.set_cons_succ]
            refine wpAnyH_take (i := 26) (oi := { dst := some 36, op := Op.move (Operand.tmp 3), type := 3, pos := "ref.go:92", after := #[{ on := 23, ground := Ground.guard }], guard := some (23, false) }) (v := undef) (by kernel_rfl) (by kernel_rfl) (by kernel_rfl) (by kernel_rfl) (fun _ _ _ h => h) (Or.inr ⟨by kernel_rfl, rfl⟩) hHeld ?_
            try simp only [Act.put, List.setIfInBounds_toArray, List.set_cons_zero, List.set_cons_succ]
            refine wpAnyH_take (i := 27) (oi := { dst := some 37, op := Op.indexAddr 42 (Operand.tmp 35) (Operand.tmp 36), type := 0, pos := "ref.go:92", after := #[{ on := 25, ground := Ground.data }, { on := 26, ground := Ground.data }, { on := 23, ground := Ground.guard }], guard := some (23, false) }) (v := undef) (by kernel_rfl) (by kernel_rfl) (by kernel_rfl) (by kernel_rfl) (fun _ _ _ h => h) (Or.inr ⟨by kernel_rfl, rfl⟩) hHeld ?_
            try simp only [Act.put, List.setIfInBounds_toArray, List.set_cons_zero, List.set_cons_succ]
            refine wpAnyH_take (i := 28) (oi := { dst := some 38, op := Op.load 46 (Operand.tmp 37), type := 46, pos := "ref.go:92", after := #[{ on := 27, ground := Ground.data }, { on := 23, ground := Ground.guard }], guard := some (23, false) }) (v := undef) (by kernel_rfl) (by kernel_rfl) (by kernel_rfl) (by kernel_rfl) (fun _ _ _ h => h) (Or.inr ⟨by kernel_rfl, rfl⟩) hHeld ?_
            try simp only [Act.put, List.setIfInBounds_toArray, List.set_cons_zero, List.set_cons_succ]
            refine wpAnyH_take (i := 29) (oi := { dst := some 39, op := Op.call { callee := Callee.value (Operand.func 51), args := #[Operand.tmp 34, Operand.tmp 38], argTypes := #[42, 46] }, type := 4, pos := "ref.go:92", after := #[{ on := 24, ground := Ground.data }, { on := 28, ground := Ground.data }, { on := 23, ground := Ground.chain }, { on := 23, ground := Ground.guard }], guard := some (23, false) }) (v := undef) (by kernel_rfl) (by kernel_rfl) (by kernel_rfl) (by kernel_rfl) (fun _ _ _ h => h) (Or.inr ⟨by kernel_rfl, rfl⟩) hHeld ?_
            try simp only [Act.put, List.setIfInBounds_toArray, List.set_cons_zero, List.set_cons_succ]
            refine wpAnyH_take (i := 30) (oi := { dst := some 40, op := Op.pick (Operand.tmp 33) (Operand.const (Value.bool true)) (Operand.tmp 39), type := 4, pos := "ref.go:92", after := #[{ on := 23, ground := Ground.data }, { on := 29, ground := Ground.data }], guard := none }) (v := ?v6_30) (by kernel_rfl) (by kernel_rfl) (by kernel_rfl) (by kernel_rfl) (fun _ _ _ h => h) (Or.inl ⟨by kernel_rfl, ?h6_30⟩) hHeld ?r6_30
            case h6_30 => (intro w hSw; (try dsimp only at hSw); go_simp; try with_reducible rfl)
            try simp only [Act.put, List.setIfInBounds_toArray, List.set_cons_zero, List.set_cons_succ]
            refine wpAnyH_done (by kernel_rfl) ?_ _
            all_goals clear hwj
            all_goals go_wp2_with fail
            go_ret
            exact ⟨ret_bool (rvalid_bad hlt (by rw [okRt_eq hlt HE.out]; exact HOK.out)).symm, hHeld.2.2.2.2.1⟩
    · obtain rfl : k = l.length := by omega
      have HV := Lib.hid (rvalid_end hno); clear hno
      go_wp2_with fail
      go_ret
      exact ⟨ret_bool HV.out.symm, hb⟩
theorem infoEntR : (Tryz.prog.info? 46).map (fun i => (i.zero, i.size, i.bytes)) = some (some (.agg #[.string ⟨#[]⟩, .int .u8 0, .string ⟨#[]⟩]), 3, 40) := by kernel_rfl
theorem three_new (W : World) (n : Nat) (hn : W.heap.size = n) (x y z : Value) (t : TypeId) : ∀ j u, [x, y, z][j]? = some u → (W.alloc (.cells #[x, y, z] t)).cell? ((⟨n, 0, none⟩ : Addr).add j) = some u := by
  subst hn
  intro j u hj
  rw [addr_add, Nat.zero_add, World.cell?_alloc_mark]
  simpa using hj
theorem flat_snocE (l : List Ent) (e : Ent) : flat (l ++ [e]) = flat l ++ entCells e := by simp [flat]
theorem flat_step (l : List Ent) (k : Nat) (hk : k < l.length) : flat (l.take (k + 1)) = flat (l.take k) ++ entCells l[k] := by
  rw [List.take_succ_eq_append_getElem hk, flat_snocE]
theorem rowE_cast {W : World} {B e : Nat} {v : Value} {fs gs : List Ent} {f : Ent} (h : W.ownsRow B e 3 v (fs.length + 1) (flat fs ++ entCells f)) (hg : gs = fs ++ [f]) : W.ownsRow B e 3 v gs.length (flat gs) := by
  rw [hg, flat_snocE]; simpa using h
/-- A lexicon in a row of the call's own. -/
def RowPost (T : TypeId) (w : World) (ls : List Ent) (e : Ending) (w' : World) : Prop := ∃ A c, e = .returned (.slice A ls.length c) ∧ ls.length ≤ c ∧ w'.ownsRow w.heap.size T 3 (.slice A ls.length c) ls.length (flat ls) ∧ Below w.heap.size w w'
set_option maxRecDepth 100000 in
set_option maxHeartbeats 1600000 in
theorem given_any (l : List Ent) (A : Option Addr) (c : Nat) (w : World) (hl : l.length ≤ 1048576) (hr : Reads w w.heap.size 3 A l.length (flat l)) :
    Calls Tryz.prog 19 #[.slice A l.length c] w (RowPost 46 w l) := by
  have HR := Lib.hid hr; clear hr
  obtain ⟨i0, hi, hz0, hz1, hz2⟩ := info_parts infoEntR
  go_enter Tryz.func19, Tryz.ntmps19
  go_wp2_with fail
  go_loopw [3, 4] (fun v i wr => ∃ k : Nat, k ≤ l.length ∧ i = .int .i64 k ∧ wr.ownsRow w.heap.size 46 3 v k (flat (l.take k)) ∧ Below w.heap.size w wr) (fun _ i _ => l.length - (intOf i).toNat)
  case atStart => exact ⟨0, Nat.zero_le _, rfl, World.ownsRow_nil _ _ _ _, Below.refl _ _⟩
  case round =>
    obtain ⟨k, hk, rfl, hrow, hb⟩ := hrel
    by_cases hlt : k < l.length
    · obtain ⟨b, off, rfl, hB, h0, h1, h2⟩ := ((HR.out).below hb).ent hlt
      have HF := Lib.hid (flat_step l k hlt)
      generalize l[k] = e at h0 h1 h2 HF
      obtain ⟨x, ct, sy⟩ := e
      have HROW := Lib.hid hrow; clear hrow
      have hbs := hb.size
      go_wp2_with (at_builtin; refine wpList_append_own _ rfl _ _ 42 rfl w.heap.size 46 i0 (.agg #[.string ⟨#[]⟩, .int .u8 0, .string ⟨#[]⟩]) 3 40 Tryz.underlying42 hi hz0 hz1 hz2 rfl (by decide) _ _ _ rfl ((HROW.out).alloc _) ⟨wr.heap.size, 0, none⟩ 1 1 [str x, byteV ct, str sy] rfl rfl ?a1 ?b1 ?c1 ?d1 ?e1 ?_)
      try (case a1 => exact three_new _ _ rfl _ _ _ _)
      case b1 => simp [Value.oneCell']
      case c1 => (unfold maxLen; omega)
      case d1 => omega
      case e1 => (first | omega | (simp; omega))
      intro v' w4 hown' hgrow _
      have HG := Lib.hid ((hb.alloc (by first | omega | (simp; omega)) (.cells #[str x, byteV ct, str sy] 46)).grown hgrow (by first | omega | (simp; omega)) (own_ge (HROW.out)))
      clear hgrow
      go_wp2_with fail
      go_roundw
      case rel => exact ⟨k + 1, by omega, by go_num, by rw [HF.out]; exact hown', HG.out⟩
      case measure => simp [intOf]; omega
    · obtain rfl : k = l.length := by omega
      rw [List.take_length] at hrow
      obtain ⟨A', c', rfl, hc, ho⟩ := own_out hrow
      have HO := Lib.hid ho
      clear hrow ho
      go_wp2_with fail
      go_ret
      exact ⟨A', c', rfl, hc, HO.out, hb⟩
set_option maxRecDepth 100000 in
set_option maxHeartbeats 1600000 in
theorem taken_any (l : List Ent) (A : Option Addr) (c : Nat) (w : World) (hl : l.length ≤ 1048576) (hr : Reads w w.heap.size 3 A l.length (flat l)) :
    Calls Tryz.prog 18 #[.slice A l.length c] w (RowPost 24 w l) := by
  have HR := Lib.hid hr; clear hr
  obtain ⟨i0, hi, hz0, hz1, hz2⟩ := info_parts infoEnt
  go_enter Tryz.func18, Tryz.ntmps18
  go_wp2_with fail
  go_loopw [3, 4] (fun v i wr => ∃ k : Nat, k ≤ l.length ∧ i = .int .i64 k ∧ wr.ownsRow w.heap.size 24 3 v k (flat (l.take k)) ∧ Below w.heap.size w wr) (fun _ i _ => l.length - (intOf i).toNat)
  case atStart => exact ⟨0, Nat.zero_le _, rfl, World.ownsRow_nil _ _ _ _, Below.refl _ _⟩
  case round =>
    obtain ⟨k, hk, rfl, hrow, hb⟩ := hrel
    by_cases hlt : k < l.length
    · obtain ⟨b, off, rfl, hB, h0, h1, h2⟩ := ((HR.out).below hb).ent hlt
      have HF := Lib.hid (flat_step l k hlt)
      generalize l[k] = e at h0 h1 h2 HF
      obtain ⟨x, ct, sy⟩ := e
      have HROW := Lib.hid hrow; clear hrow
      have hbs := hb.size
      go_wp2_with (at_builtin; refine wpList_append_own _ rfl _ _ 22 rfl w.heap.size 24 i0 (.agg #[.string ⟨#[]⟩, .int .u8 0, .string ⟨#[]⟩]) 3 40 Tryz.underlying22 hi hz0 hz1 hz2 rfl (by decide) _ _ _ rfl ((HROW.out).alloc _) ⟨wr.heap.size, 0, none⟩ 1 1 [str x, byteV ct, str sy] rfl rfl ?a1 ?b1 ?c1 ?d1 ?e1 ?_)
      try (case a1 => exact three_new _ _ rfl _ _ _ _)
      case b1 => simp [Value.oneCell']
      case c1 => (unfold maxLen; omega)
      case d1 => omega
      case e1 => (first | omega | (simp; omega))
      intro v' w4 hown' hgrow _
      have HG := Lib.hid ((hb.alloc (by first | omega | (simp; omega)) (.cells #[str x, byteV ct, str sy] 24)).grown hgrow (by first | omega | (simp; omega)) (own_ge (HROW.out)))
      clear hgrow
      go_wp2_with fail
      go_roundw
      case rel => exact ⟨k + 1, by omega, by go_num, by rw [HF.out]; exact hown', HG.out⟩
      case measure => simp [intOf]; omega
    · obtain rfl : k = l.length := by omega
      rw [List.take_length] at hrow
      obtain ⟨A', c', rfl, hc, ho⟩ := own_out hrow
      have HO := Lib.hid ho
      clear hrow ho
      go_wp2_with fail
      go_ret
      exact ⟨A', c', rfl, hc, HO.out, hb⟩
theorem box_cellsT {W : World} {b : Nat} {t : TypeId} {x : List UInt8} {c : UInt8} {y : List UInt8} (h : Blk W b t #[str x, byteV c, str y]) : W.cell? ⟨b, 0, none⟩ = some (str x) ∧ W.cell? ⟨b, 1, none⟩ = some (byteV c) ∧ W.cell? ⟨b, 2, none⟩ = some (str y) := ⟨h.cell 0, h.cell 1, h.cell 2⟩
/-- A lexicon that reads, and an error. -/
def RdPost (w : World) (ls : List Ent) (er : Int) (e : Ending) (w' : World) : Prop := ∃ A c, e = .returned (.tuple #[.slice A ls.length c, .int .i64 er]) ∧ ls.length ≤ c ∧ Reads w' w'.heap.size 3 A ls.length (flat ls) ∧ Below w.heap.size w w'
theorem RdPost.none_ {w w' : World} (er : Int) (h : Below w.heap.size w w') : RdPost w [] er (.returned (.tuple #[.slice none 0 0, .int .i64 er])) w' := ⟨none, 0, rfl, Nat.le_refl _, Reads.none_, h⟩
theorem radd_bad {l : List Ent} {e : Ent} (h : (validL l && rightL e) = false) : raddR l e = ([], 2) := by unfold raddR; rw [h]; rfl
theorem radd_good {l : List Ent} {e : Ent} (hv : validL l = true) (hr : rightL e = true) : raddR l e = (if l.any (twE e) = true then ([], 330) else if (l.any fun o => clashL o e) = true then ([], 331) else if l.length = 100 then ([], 5) else (l.take (atL l e) ++ e :: l.drop (atL l e), 0)) := by
  unfold raddR; rw [hv, hr]; rfl
theorem tw_hit {l : List Ent} {e : Ent} {k : Nat} (hk : k < l.length) (h : twE e l[k] = true) : l.any (twE e) = true := List.any_eq_true.2 ⟨_, List.getElem_mem hk, h⟩
theorem tw_none {l : List Ent} {e : Ent} (h : NoneTo (fun i => twE e (l.getD i dE)) l.length) : l.any (twE e) = false := by
  rw [List.any_eq_false]
  intro o ho
  obtain ⟨i, hi, rfl⟩ := List.getElem_of_mem ho
  have := h i hi
  have e1 : l.getD i dE = l[i] := by simp [hi]
  simp only [e1] at this
  simp [this]
theorem atL_le (l : List Ent) (e : Ent) : atL l e ≤ l.length := firstIdx_le _ _
theorem tw_parts {e o : Ent} : twE e o = ((o.1 == e.1) && (o.2.1 == e.2.1)) := rfl
theorem rowE_put {W : World} {B e n : Nat} {v : Value} {fs : List Ent} {f : Ent} (h : W.ownsRow B e 3 v n (flat fs ++ entCells f)) (hn : n = (fs ++ [f]).length) : W.ownsRow B e 3 v (fs ++ [f]).length (flat (fs ++ [f])) := by
  rw [← hn, flat_snocE]; exact h
theorem three_new0 (W : World) (n : Nat) (hn : W.heap.size = n) (x y z : Value) (t : TypeId) : ∀ j u, [x, y, z][j]? = some u → (W.alloc (.cells #[x, y, z] t)).cell? ⟨n, j, none⟩ = some u := by
  intro j u hj
  have := three_new W n hn x y z t j u hj
  rwa [addr_add, Nat.zero_add] at this
/-- What the reference's Add knows inside a region: the entry's box, the entry at hand, the row so far. -/
abbrev S8 (w W : World) (B : Nat) (e : Ent) (b o : Nat) (q : Ent) (t : TypeId) (v : Value) (xs : List Ent) : Prop := S6 w W B e b o q ∧ W.ownsRow w.heap.size t 3 v xs.length (flat xs)
theorem keep8 {w W W' : World} {B b o : Nat} {e q : Ent} {t : TypeId} {v : Value} {xs : List Ent} (h : S8 w W B e b o q t v xs) (hb : Below W.heap.size W W') : S8 w W' B e b o q t v xs := ⟨keep6 h.1 hb, row_later h.2 hb⟩
theorem start8 {w W : World} {B b o : Nat} {e q : Ent} {t : TypeId} {v : Value} {xs : List Ent} (h : S8 w W B e b o q t v xs) : S8 w W.drew B e b o q t v xs := ⟨start6 h.1, h.2⟩
set_option maxRecDepth 100000 in
set_option maxHeartbeats 3200000 in
theorem radd_2 (l : List Ent) (e : Ent) (A : Option Addr) (c : Nat) (w : World) (hl : l.length ≤ 1048576) (hw : ∀ e ∈ l, e.1.length ≤ 1048576 ∧ e.2.2.length ≤ 1048576) (hx : e.1.length ≤ 1048576 ∧ e.2.2.length ≤ 1048576) (hr : Reads w w.heap.size 3 A l.length (flat l)) (hbad : (validL l && rightL e) = false) :
    Calls Tryz.prog 20 #[.slice A l.length c, entV e] w (RdPost w (raddR l e).1 (raddR l e).2) := by
  rw [radd_bad hbad]
  have HR := Lib.hid hr; clear hr
  have HW := Lib.hid hw; clear hw
  obtain ⟨ex, ec, esy⟩ := e
  have hbox : Hid (∀ W : World, W = w.alloc (.cells #[str ex, byteV ec, str esy] 46) → Blk W w.heap.size 46 #[str ex, byteV ec, str esy] ∧ Below w.heap.size w W) := fun W h => by subst h; exact ⟨Blk.new _ _ _, (Below.refl _ _).alloc (Nat.le_refl _) _⟩
  cases hv : validL l
  · have HV := Lib.hid hv; clear hv hbad hx
    go_enter Tryz.func20, Tryz.ntmps20
    go_wp2_with fail
    obtain ⟨W1, hW1⟩ : ∃ W1 : World, W1 = w.alloc (.cells #[str ex, byteV ec, str esy] 46) := ⟨_, rfl⟩
    obtain ⟨hbk, hb1⟩ := hbox.out W1 hW1
    rw [← hW1]
    clear hW1
    go_at_call 23; refine (rvalid_any l A c _ hl HW.out ((HR.out).later hb1)).mono ?_; rintro e' w2 ⟨rfl, hb2⟩; rw [HV.out]
    go_wp2_with fail
    go_ret2
    exact RdPost.none_ 2 (below_then hb1 hb2)
  · have hrt : rightL (ex, ec, esy) = false := by rw [hv] at hbad; simpa using hbad
    have HV := Lib.hid hv; have HT := Lib.hid hrt; clear hv hbad hrt
    have hx1 : ex.length ≤ 140737488355328 := by have := hx.1; simp only at this; omega
    have hx2 : esy.length ≤ 140737488355328 := by have := hx.2; simp only at this; omega
    clear hx
    go_enter Tryz.func20, Tryz.ntmps20
    go_wp2_with fail
    obtain ⟨W1, hW1⟩ : ∃ W1 : World, W1 = w.alloc (.cells #[str ex, byteV ec, str esy] 46) := ⟨_, rfl⟩
    obtain ⟨hbk, hb1⟩ := hbox.out W1 hW1
    rw [← hW1]
    clear hW1
    go_at_call 23; refine (rvalid_any l A c _ hl HW.out ((HR.out).later hb1)).mono ?_; rintro e' w2 ⟨rfl, hb2⟩; rw [HV.out]
    obtain ⟨k0, k1, k2⟩ := box_cellsT (hbk.later hb2)
    go_wp2_with fail
    go_at_call 25; refine (rright_any ex ec esy _ hx1 hx2).mono ?_; rintro e' w3 ⟨rfl, hb3⟩; rw [HT.out]
    go_wp2_with fail
    go_ret2
    exact RdPost.none_ 2 (below_then hb1 (below_then hb2 hb3))
set_option maxRecDepth 100000 in
set_option maxHeartbeats 6400000 in
theorem radd_1 (l : List Ent) (e : Ent) (A : Option Addr) (c : Nat) (w : World) (hl : l.length ≤ 100) (hw : ∀ e ∈ l, e.1.length ≤ 1048576 ∧ e.2.2.length ≤ 1048576) (hx : e.1.length ≤ 1048576 ∧ e.2.2.length ≤ 1048576) (hr : Reads w w.heap.size 3 A l.length (flat l)) (hv : validL l = true) (hrt : rightL e = true) :
    Calls Tryz.prog 20 #[.slice A l.length c, entV e] w (RdPost w (raddR l e).1 (raddR l e).2) := by
  have HXX := Lib.hid (radd_good hv hrt)
  have HR := Lib.hid hr; clear hr
  have HW := Lib.hid hw; clear hw
  obtain ⟨ex, ec, esy⟩ := e
  have hbox : Hid (∀ W : World, W = w.alloc (.cells #[str ex, byteV ec, str esy] 46) → Blk W w.heap.size 46 #[str ex, byteV ec, str esy] ∧ Below w.heap.size w W) := fun W h => by subst h; exact ⟨Blk.new _ _ _, (Below.refl _ _).alloc (Nat.le_refl _) _⟩
  have HV := Lib.hid hv; have HT := Lib.hid hrt; clear hv hrt
  have hx1 : ex.length ≤ 140737488355328 := by have := hx.1; simp only at this; omega
  have hx2 : esy.length ≤ 140737488355328 := by have := hx.2; simp only at this; omega
  clear hx
  obtain ⟨i0, hi, hz0, hz1, hz2⟩ := info_parts infoEntR
  have HAT := Lib.hid (atL_le l (ex, ec, esy))
  go_enter Tryz.func20, Tryz.ntmps20
  go_wp2_with fail
  obtain ⟨W1, hW1⟩ : ∃ W1 : World, W1 = w.alloc (.cells #[str ex, byteV ec, str esy] 46) := ⟨_, rfl⟩
  obtain ⟨hbk, hb1⟩ := hbox.out W1 hW1
  rw [← hW1]
  clear hW1
  go_at_call 23; refine (rvalid_any l A c _ (by omega) HW.out ((HR.out).later hb1)).mono ?_; rintro e' w2 ⟨rfl, hb2⟩; rw [HV.out]
  replace hbk := hbk.later hb2
  replace hb1 := below_then hb1 hb2; clear hb2
  obtain ⟨k0, k1, k2⟩ := box_cellsT hbk
  go_wp2_with fail
  go_at_call 25; refine (rright_any ex ec esy _ hx1 hx2).mono ?_; rintro e' w3 ⟨rfl, hb3⟩; rw [HT.out]
  replace hbk := hbk.later hb3
  replace hb1 := below_then hb1 hb3; clear hb3 k0 k1 k2
  go_wp2_with fail
  go_loopw [6, 7, 8] (fun v p i wr => ∃ k : Nat, k ≤ l.length ∧ i = .int .i64 k ∧ p = .bool (decide (atL l (ex, ec, esy) < k)) ∧ wr.ownsRow w3.heap.size 46 3 v (putK l (ex, ec, esy) k).length (flat (putK l (ex, ec, esy) k)) ∧ Below w3.heap.size w3 wr ∧ NoneTo (fun i => twE (ex, ec, esy) (l.getD i dE)) k) (fun _ _ i _ => l.length - (intOf i).toNat)
  case atStart => exact ⟨0, Nat.zero_le _, rfl, by simp, by rw [putK_zero]; exact World.ownsRow_nil _ _ _ _, Below.refl _ _, NoneTo.zero _⟩
  case round =>
    obtain ⟨k, hk, rfl, hp, hrow, hb, hno⟩ := hrel
    have hbs := hb.size
    have hws := hb1.size
    have hkz := hbk.lt
    have hpl := putK_len l (ex, ec, esy) k hk
    by_cases hlt : k < l.length
    · obtain ⟨b, off, rfl, hB, h0, h1, h2⟩ := ((HR.out).below (hb1.trans (hb.mono hws))).ent hlt
      obtain ⟨k0, k1, k2⟩ := box_cellsT (hbk.later hb)
      have HTW := Lib.hid (fun (h : twE (ex, ec, esy) l[k] = true) => tw_hit hlt h)
      have HNO := Lib.hid (fun (h : twE (ex, ec, esy) l[k] = false) => hno.succ (show (fun i => twE (ex, ec, esy) (l.getD i dE)) k = false by simp only [List.getD_eq_getElem?_getD, List.getElem?_eq_getElem hlt]; exact h))
      have HHR := Lib.hid (fun h1 (h : twE (ex, ec, esy) l[k] = false) => at_here (e := (ex, ec, esy)) hlt hno h1 h)
      have HSM := Lib.hid (fun h => putK_same (e := (ex, ec, esy)) hlt h)
      have HPA := Lib.hid (fun h => putK_at (e := (ex, ec, esy)) hlt h)
      clear hno
      generalize l[k] = oo at h0 h1 h2 HTW HNO HHR HSM HPA
      obtain ⟨ox, oc, osy⟩ := oo
      have hu := u8_eqq oc ec
      have HROW := Lib.hid hrow; clear hrow
      cases hx : (ox == ex)
      · have HTF : Hid (twE (ex, ec, esy) (ox, oc, osy) = false) := Lib.hid (by rw [tw_parts]; simp only [hx]; rfl)
        rcases Nat.lt_or_ge (atL l (ex, ec, esy)) k with hat | hat
        · rw [decide_eq_true hat] at hp
          subst hp
          have HPK := Lib.hid (HSM.out (by omega))
          have HPT : Hid (decide (atL l (ex, ec, esy) < k + 1) = true) := Lib.hid (decide_eq_true (by omega))
          clear hat
          go_wp2_with fail
          go_quiet (fail)
          go_wp2_with fail
          have hS : ∀ m, S8 w3 (wr.drewN m) w.heap.size (ex, ec, esy) b (off + k * 3) (ox, oc, osy) 46 u6 _ := fun m => ⟨⟨k0, k1, k2, by show w.heap.size < wr.heap.size; omega, below_drewN hb m, h0, h1, h2, by show b < wr.heap.size; omega⟩, HROW.out⟩
          refine wp_region_held_drew (S := fun W => S8 w3 W w.heap.size (ex, ec, esy) b (off + k * 3) (ox, oc, osy) 46 u6 (putK l (ex, ec, esy) k)) (by kernel_rfl) (by exact start8 (hS _)) (fun hHeld => ?_)
          refine wpAnyH_take (i := 0) (oi := { dst := some 41, op := Op.move (Operand.tmp 7), type := 4, pos := "ref.go:150", after := #[], guard := none }) (v := ?v7_0) (by kernel_rfl) (by kernel_rfl) (by kernel_rfl) (by kernel_rfl) (fun _ _ _ h => h) (Or.inl ⟨by kernel_rfl, ?h7_0⟩) hHeld ?r7_0
          case h7_0 => (intro w hSw; (try dsimp only at hSw); go_simp; try with_reducible rfl)
          try simp only [Act.put, List.setIfInBounds_toArray, List.set_cons_zero, List.set_cons_succ]
          refine wpAnyH_take (i := 1) (oi := { dst := some 42, op := Op.unOp UnOp.not 4 (Operand.tmp 41), type := 4, pos := "ref.go:150", after := #[{ on := 0, ground := Ground.data }], guard := none }) (v := ?v7_1) (by kernel_rfl) (by kernel_rfl) (by kernel_rfl) (by kernel_rfl) (fun _ _ _ h => h) (Or.inl ⟨by kernel_rfl, ?h7_1⟩) hHeld ?r7_1
          case h7_1 => (intro w hSw; (try dsimp only at hSw); go_simp; try with_reducible rfl)
          try simp only [Act.put, List.setIfInBounds_toArray, List.set_cons_zero, List.set_cons_succ]
          refine wpAnyH_take (i := 2) (oi := { dst := some 43, op := Op.move (Operand.tmp 42), type := 4, pos := "ref.go:150", after := #[{ on := 1, ground := Ground.data }], guard := none }) (v := ?v7_2) (by kernel_rfl) (by kernel_rfl) (by kernel_rfl) (by kernel_rfl) (fun _ _ _ h => h) (Or.inl ⟨by kernel_rfl, ?h7_2⟩) hHeld ?r7_2
          case h7_2 => (intro w hSw; (try dsimp only at hSw); go_simp; try with_reducible rfl)
          try simp only [Act.put, List.setIfInBounds_toArray, List.set_cons_zero, List.set_cons_succ]
          refine wpAnyH_take (i := 3) (oi := { dst := some 44, op := Op.load 46 (Operand.tmp 3), type := 46, pos := "ref.go:150", after := #[{ on := 2, ground := Ground.guard }], guard := some (2, true) }) (v := undef) (by kernel_rfl) (by kernel_rfl) (by kernel_rfl) (by kernel_rfl) (fun _ _ _ h => h) (Or.inr ⟨by kernel_rfl, rfl⟩) hHeld ?_
          try simp only [Act.put, List.setIfInBounds_toArray, List.set_cons_zero, List.set_cons_succ]
          refine wpAnyH_take (i := 4) (oi := { dst := some 45, op := Op.move (Operand.tmp 0), type := 42, pos := "ref.go:150", after := #[{ on := 2, ground := Ground.guard }], guard := some (2, true) }) (v := undef) (by kernel_rfl) (by kernel_rfl) (by kernel_rfl) (by kernel_rfl) (fun _ _ _ h => h) (Or.inr ⟨by kernel_rfl, rfl⟩) hHeld ?_
          try simp only [Act.put, List.setIfInBounds_toArray, List.set_cons_zero, List.set_cons_succ]
          refine wpAnyH_take (i := 5) (oi := { dst := some 46, op := Op.move (Operand.tmp 8), type := 3, pos := "ref.go:150", after := #[{ on := 2, ground := Ground.guard }], guard := some (2, true) }) (v := undef) (by kernel_rfl) (by kernel_rfl) (by kernel_rfl) (by kernel_rfl) (fun _ _ _ h => h) (Or.inr ⟨by kernel_rfl, rfl⟩) hHeld ?_
          try simp only [Act.put, List.setIfInBounds_toArray, List.set_cons_zero, List.set_cons_succ]
          refine wpAnyH_take (i := 6) (oi := { dst := some 47, op := Op.indexAddr 42 (Operand.tmp 45) (Operand.tmp 46), type := 0, pos := "ref.go:150", after := #[{ on := 4, ground := Ground.data }, { on := 5, ground := Ground.data }, { on := 2, ground := Ground.guard }], guard := some (2, true) }) (v := undef) (by kernel_rfl) (by kernel_rfl) (by kernel_rfl) (by kernel_rfl) (fun _ _ _ h => h) (Or.inr ⟨by kernel_rfl, rfl⟩) hHeld ?_
          try simp only [Act.put, List.setIfInBounds_toArray, List.set_cons_zero, List.set_cons_succ]
          refine wpAnyH_take (i := 7) (oi := { dst := some 48, op := Op.load 46 (Operand.tmp 47), type := 46, pos := "ref.go:150", after := #[{ on := 6, ground := Ground.data }, { on := 2, ground := Ground.guard }], guard := some (2, true) }) (v := undef) (by kernel_rfl) (by kernel_rfl) (by kernel_rfl) (by kernel_rfl) (fun _ _ _ h => h) (Or.inr ⟨by kernel_rfl, rfl⟩) hHeld ?_
          try simp only [Act.put, List.setIfInBounds_toArray, List.set_cons_zero, List.set_cons_succ]
          refine wpAnyH_take (i := 8) (oi := { dst := some 49, op := Op.call { callee := Callee.value (Operand.func 50), args := #[Operand.tmp 44, Operand.tmp 48], argTypes := #[46, 46] }, type := 4, pos := "ref.go:150", after := #[{ on := 3, ground := Ground.data }, { on := 7, ground := Ground.data }, { on := 2, ground := Ground.chain }, { on := 2, ground := Ground.guard }], guard := some (2, true) }) (v := undef) (by kernel_rfl) (by kernel_rfl) (by kernel_rfl) (by kernel_rfl) (fun _ _ _ h => h) (Or.inr ⟨by kernel_rfl, rfl⟩) hHeld ?_
          try simp only [Act.put, List.setIfInBounds_toArray, List.set_cons_zero, List.set_cons_succ]
          refine wpAnyH_take (i := 9) (oi := { dst := some 50, op := Op.pick (Operand.tmp 43) (Operand.tmp 49) (Operand.const (Value.bool false)), type := 4, pos := "ref.go:150", after := #[{ on := 2, ground := Ground.data }, { on := 8, ground := Ground.data }], guard := none }) (v := ?v7_9) (by kernel_rfl) (by kernel_rfl) (by kernel_rfl) (by kernel_rfl) (fun _ _ _ h => h) (Or.inl ⟨by kernel_rfl, ?h7_9⟩) hHeld ?r7_9
          case h7_9 => (intro w hSw; (try dsimp only at hSw); go_simp; try with_reducible rfl)
          try simp only [Act.put, List.setIfInBounds_toArray, List.set_cons_zero, List.set_cons_succ]
          refine wpAnyH_done (by kernel_rfl) ?_ _
          have HB := Lib.hid hHeld.1.2.2.2.2.1
          have HRW := Lib.hid hHeld.2
          obtain ⟨q0, q1, q2⟩ : _ ∧ _ ∧ _ := ⟨hHeld.1.2.2.2.2.2.1, hHeld.1.2.2.2.2.2.2.1, hHeld.1.2.2.2.2.2.2.2.1⟩
          clear hHeld hS
          go_wp2_with (at_builtin; refine wpList_append_own _ rfl _ _ 42 rfl w3.heap.size 46 i0 (.agg #[.string ⟨#[]⟩, .int .u8 0, .string ⟨#[]⟩]) 3 40 Tryz.underlying42 hi hz0 hz1 hz2 rfl (by decide) _ _ _ rfl ((HRW.out).alloc _) ⟨wr.heap.size, 0, none⟩ 1 1 [str ox, byteV oc, str osy] rfl rfl ?a1 ?b1 ?c1 ?d1 ?e1 ?_)
          try (case a1 => first | exact three_new _ _ rfl _ _ _ _ | exact three_new _ _ (by simp) _ _ _ _ | exact three_new0 _ _ rfl _ _ _ _ | exact three_new0 _ _ (by simp) _ _ _ _)
          case b1 => simp [Value.oneCell']
          case c1 => (unfold maxLen; omega)
          case d1 => omega
          case e1 => (have := (HB.out).size; first | omega | (simp; omega))
          intro v5 w5 hown1 hgrow1 _
          have HG1 := Lib.hid (((HB.out).alloc (by have := (HB.out).size; first | omega | (simp; omega)) (.cells #[str ox, byteV oc, str osy] 46)).grown hgrow1 (by have := (HB.out).size; first | omega | (simp; omega)) (own_ge (HRW.out)))
          have HR1 := Lib.hid (rowE_put (f := (ox, oc, osy)) hown1 (by simp))
          clear hgrow1 hown1
          go_wp2_with fail
          go_roundw
          case rel => exact ⟨k + 1, by omega, by go_num, by rw [HPT.out], by rw [HPK.out]; exact HR1.out, HG1.out, HNO.out HTF.out⟩
          case measure => simp [intOf]; omega
        · rw [decide_eq_false (by omega)] at hp
          subst hp
          have HHD := Lib.hid (HHR.out hat HTF.out)
          rcases Nat.eq_or_lt_of_le hat with hat | hat
          · have HCD : Hid (decide (cmpL (ex, ec, esy) (ox, oc, osy) < 0) = true) := Lib.hid (HHD.out.trans (decide_eq_true hat.symm))
            have HPK := Lib.hid (HPA.out hat.symm)
            have HPT : Hid (decide (atL l (ex, ec, esy) < k + 1) = true) := Lib.hid (decide_eq_true (by omega))
            clear hat
            go_wp2_with fail
            go_quiet (fail)
            go_wp2_with fail
            have hS : ∀ m, S8 w3 (wr.drewN m) w.heap.size (ex, ec, esy) b (off + k * 3) (ox, oc, osy) 46 u6 _ := fun m => ⟨⟨k0, k1, k2, by show w.heap.size < wr.heap.size; omega, below_drewN hb m, h0, h1, h2, by show b < wr.heap.size; omega⟩, HROW.out⟩
            refine wp_region_held_drew (S := fun W => S8 w3 W w.heap.size (ex, ec, esy) b (off + k * 3) (ox, oc, osy) 46 u6 (putK l (ex, ec, esy) k)) (by kernel_rfl) (by exact start8 (hS _)) (fun hHeld => ?_)
            refine wpAnyH_take (i := 0) (oi := { dst := some 41, op := Op.move (Operand.tmp 7), type := 4, pos := "ref.go:150", after := #[], guard := none }) (v := ?v8_0) (by kernel_rfl) (by kernel_rfl) (by kernel_rfl) (by kernel_rfl) (fun _ _ _ h => h) (Or.inl ⟨by kernel_rfl, ?h8_0⟩) hHeld ?r8_0
            case h8_0 => (intro w hSw; (try dsimp only at hSw); go_simp; try with_reducible rfl)
            try simp only [Act.put, List.setIfInBounds_toArray, List.set_cons_zero, List.set_cons_succ]
            refine wpAnyH_take (i := 1) (oi := { dst := some 42, op := Op.unOp UnOp.not 4 (Operand.tmp 41), type := 4, pos := "ref.go:150", after := #[{ on := 0, ground := Ground.data }], guard := none }) (v := ?v8_1) (by kernel_rfl) (by kernel_rfl) (by kernel_rfl) (by kernel_rfl) (fun _ _ _ h => h) (Or.inl ⟨by kernel_rfl, ?h8_1⟩) hHeld ?r8_1
            case h8_1 => (intro w hSw; (try dsimp only at hSw); go_simp; try with_reducible rfl)
            try simp only [Act.put, List.setIfInBounds_toArray, List.set_cons_zero, List.set_cons_succ]
            refine wpAnyH_take (i := 2) (oi := { dst := some 43, op := Op.move (Operand.tmp 42), type := 4, pos := "ref.go:150", after := #[{ on := 1, ground := Ground.data }], guard := none }) (v := ?v8_2) (by kernel_rfl) (by kernel_rfl) (by kernel_rfl) (by kernel_rfl) (fun _ _ _ h => h) (Or.inl ⟨by kernel_rfl, ?h8_2⟩) hHeld ?r8_2
            case h8_2 => (intro w hSw; (try dsimp only at hSw); go_simp; try with_reducible rfl)
            try simp only [Act.put, List.setIfInBounds_toArray, List.set_cons_zero, List.set_cons_succ]
            refine wpAnyH_take (i := 3) (oi := { dst := some 44, op := Op.load 46 (Operand.tmp 3), type := 46, pos := "ref.go:150", after := #[{ on := 2, ground := Ground.guard }], guard := some (2, true) }) (v := ?v8_3) (by kernel_rfl) (by kernel_rfl) (by kernel_rfl) (by kernel_rfl) (fun _ _ _ h => h) (Or.inl ⟨by kernel_rfl, ?h8_3⟩) hHeld ?r8_3
            case h8_3 => (intro w hSw; (try dsimp only at hSw); go_simp; try with_reducible rfl)
            try simp only [Act.put, List.setIfInBounds_toArray, List.set_cons_zero, List.set_cons_succ]
            refine wpAnyH_take (i := 4) (oi := { dst := some 45, op := Op.move (Operand.tmp 0), type := 42, pos := "ref.go:150", after := #[{ on := 2, ground := Ground.guard }], guard := some (2, true) }) (v := ?v8_4) (by kernel_rfl) (by kernel_rfl) (by kernel_rfl) (by kernel_rfl) (fun _ _ _ h => h) (Or.inl ⟨by kernel_rfl, ?h8_4⟩) hHeld ?r8_4
            case h8_4 => (intro w hSw; (try dsimp only at hSw); go_simp; try with_reducible rfl)
            try simp only [Act.put, List.setIfInBounds_toArray, List.set_cons_zero, List.set_cons_succ]
            refine wpAnyH_take (i := 5) (oi := { dst := some 46, op := Op.move (Operand.tmp 8), type := 3, pos := "ref.go:150", after := #[{ on := 2, ground := Ground.guard }], guard := some (2, true) }) (v := ?v8_5) (by kernel_rfl) (by kernel_rfl) (by kernel_rfl) (by kernel_rfl) (fun _ _ _ h => h) (Or.inl ⟨by kernel_rfl, ?h8_5⟩) hHeld ?r8_5
            case h8_5 => (intro w hSw; (try dsimp only at hSw); go_simp; try with_reducible rfl)
            try simp only [Act.put, List.setIfInBounds_toArray, List.set_cons_zero, List.set_cons_succ]
            refine wpAnyH_take (i := 6) (oi := { dst := some 47, op := Op.indexAddr 42 (Operand.tmp 45) (Operand.tmp 46), type := 0, pos := "ref.go:150", after := #[{ on := 4, ground := Ground.data }, { on := 5, ground := Ground.data }, { on := 2, ground := Ground.guard }], guard := some (2, true) }) (v := ?v8_6) (by kernel_rfl) (by kernel_rfl) (by kernel_rfl) (by kernel_rfl) (fun _ _ _ h => h) (Or.inl ⟨by kernel_rfl, ?h8_6⟩) hHeld ?r8_6
            case h8_6 => (intro w hSw; (try dsimp only at hSw); go_simp; try with_reducible rfl)
            try simp only [Act.put, List.setIfInBounds_toArray, List.set_cons_zero, List.set_cons_succ]
            refine wpAnyH_take (i := 7) (oi := { dst := some 48, op := Op.load 46 (Operand.tmp 47), type := 46, pos := "ref.go:150", after := #[{ on := 6, ground := Ground.data }, { on := 2, ground := Ground.guard }], guard := some (2, true) }) (v := ?v8_7) (by kernel_rfl) (by kernel_rfl) (by kernel_rfl) (by kernel_rfl) (fun _ _ _ h => h) (Or.inl ⟨by kernel_rfl, ?h8_7⟩) hHeld ?r8_7
            case h8_7 => (intro w hSw; (try dsimp only at hSw); go_simp; try with_reducible rfl)
            try simp only [Act.put, List.setIfInBounds_toArray, List.set_cons_zero, List.set_cons_succ]
            refine wpAnyH_ready (rs := [8]) (by kernel_rfl) (by simp) ?_
            refine AllReadyH.cons (i := 8) (o := { dst := some 49, op := Op.call { callee := Callee.value (Operand.func 50), args := #[Operand.tmp 44, Operand.tmp 48], argTypes := #[46, 46] }, type := 4, pos := "ref.go:150", after := #[{ on := 3, ground := Ground.data }, { on := 7, ground := Ground.data }, { on := 2, ground := Ground.chain }, { on := 2, ground := Ground.guard }], guard := some (2, true) }) rfl (fun K hK => ?_) AllReadyH.nil
            go_simp
            refine (rahead_any (ex, ec, esy) (ox, oc, osy) _).mono ?_
            rintro e' w4 ⟨rfl, hb4⟩
            rw [HCD.out]
            go_wp2_with fail
            refine hK.out _ _ (by exact keep8 (by assumption) (by assumption)) (fun hHeld => ?_)
            clear hK K
            try simp only [Act.put, List.setIfInBounds_toArray, List.set_cons_zero, List.set_cons_succ]
            refine wpAnyH_take (i := 9) (oi := { dst := some 50, op := Op.pick (Operand.tmp 43) (Operand.tmp 49) (Operand.const (Value.bool false)), type := 4, pos := "ref.go:150", after := #[{ on := 2, ground := Ground.data }, { on := 8, ground := Ground.data }], guard := none }) (v := ?v8_9) (by kernel_rfl) (by kernel_rfl) (by kernel_rfl) (by kernel_rfl) (fun _ _ _ h => h) (Or.inl ⟨by kernel_rfl, ?h8_9⟩) hHeld ?r8_9
            case h8_9 => (intro w hSw; (try dsimp only at hSw); go_simp; try with_reducible rfl)
            try simp only [Act.put, List.setIfInBounds_toArray, List.set_cons_zero, List.set_cons_succ]
            refine wpAnyH_done (by kernel_rfl) ?_ _
            have HB := Lib.hid hHeld.1.2.2.2.2.1
            have HRW := Lib.hid hHeld.2
            obtain ⟨b0, b1, b2, q0, q1, q2⟩ : _ ∧ _ ∧ _ ∧ _ ∧ _ ∧ _ := ⟨hHeld.1.1, hHeld.1.2.1, hHeld.1.2.2.1, hHeld.1.2.2.2.2.2.1, hHeld.1.2.2.2.2.2.2.1, hHeld.1.2.2.2.2.2.2.2.1⟩
            clear hHeld hS k0 k1 k2 h0 h1 h2
            go_wp2_with (at_builtin; refine wpList_append_own _ rfl _ _ 42 rfl w3.heap.size 46 i0 (.agg #[.string ⟨#[]⟩, .int .u8 0, .string ⟨#[]⟩]) 3 40 Tryz.underlying42 hi hz0 hz1 hz2 rfl (by decide) _ _ _ rfl ((HRW.out).alloc _) ⟨w4.heap.size, 0, none⟩ 1 1 [str ex, byteV ec, str esy] rfl rfl ?a2 ?b2 ?c2 ?d2 ?e2 ?_)
            try (case a2 => first | exact three_new _ _ rfl _ _ _ _ | exact three_new _ _ (by simp) _ _ _ _ | exact three_new0 _ _ rfl _ _ _ _ | exact three_new0 _ _ (by simp) _ _ _ _)
            case b2 => simp [Value.oneCell']
            case c2 => (unfold maxLen; omega)
            case d2 => omega
            case e2 => (have := (HB.out).size; first | omega | (simp; omega))
            intro v5 w5 hown2 hgrow2 _
            have HG2 := Lib.hid (((HB.out).alloc (by have := (HB.out).size; first | omega | (simp; omega)) (.cells #[str ex, byteV ec, str esy] 46)).grown hgrow2 (by have := (HB.out).size; first | omega | (simp; omega)) (own_ge (HRW.out)))
            have HR2 := Lib.hid (rowE_put (f := (ex, ec, esy)) hown2 (by simp))
            clear hgrow2 hown2
            have hbz : b < w3.heap.size := by omega
            skip
            replace q0 := ((HG2.out).cell (p := ⟨b, _, none⟩) hbz).trans (((HB.out).cell (p := ⟨b, _, none⟩) hbz).symm.trans q0)
            replace q1 := ((HG2.out).cell (p := ⟨b, _, none⟩) hbz).trans (((HB.out).cell (p := ⟨b, _, none⟩) hbz).symm.trans q1)
            replace q2 := ((HG2.out).cell (p := ⟨b, _, none⟩) hbz).trans (((HB.out).cell (p := ⟨b, _, none⟩) hbz).symm.trans q2)
            have hpl2 : (putK l (ex, ec, esy) k ++ [(ex, ec, esy)]).length ≤ k + 2 := by simp; omega
            clear b0 b1 b2
            go_wp2_with (at_builtin; refine wpList_append_own _ rfl _ _ 42 rfl w3.heap.size 46 i0 (.agg #[.string ⟨#[]⟩, .int .u8 0, .string ⟨#[]⟩]) 3 40 Tryz.underlying42 hi hz0 hz1 hz2 rfl (by decide) _ _ _ rfl ((HR2.out).alloc _) ⟨w5.heap.size, 0, none⟩ 1 1 [str ox, byteV oc, str osy] rfl rfl ?a3 ?b3 ?c3 ?d3 ?e3 ?_)
            try (case a3 => first | exact three_new _ _ rfl _ _ _ _ | exact three_new _ _ (by simp) _ _ _ _ | exact three_new0 _ _ rfl _ _ _ _ | exact three_new0 _ _ (by simp) _ _ _ _)
            case b3 => simp [Value.oneCell']
            case c3 => (unfold maxLen; omega)
            case d3 => omega
            case e3 => (have := (HG2.out).size; first | omega | (simp; omega))
            intro v6 w6 hown3 hgrow3 _
            have HG3 := Lib.hid (((HG2.out).alloc (by have := (HG2.out).size; first | omega | (simp; omega)) (.cells #[str ox, byteV oc, str osy] 46)).grown hgrow3 (by have := (HG2.out).size; first | omega | (simp; omega)) (own_ge (HR2.out)))
            have HR3 := Lib.hid (rowE_put (f := (ox, oc, osy)) hown3 (by simp))
            clear hgrow3 hown3
            go_wp2_with fail
            go_roundw
            case rel => exact ⟨k + 1, by omega, by go_num, by rw [HPT.out], by rw [HPK.out]; exact HR3.out, HG3.out, HNO.out HTF.out⟩
            case measure => simp [intOf]; omega
          · have HCD : Hid (decide (cmpL (ex, ec, esy) (ox, oc, osy) < 0) = false) := Lib.hid (HHD.out.trans (decide_eq_false (by omega)))
            have HPK := Lib.hid (HSM.out (by omega))
            have HPT : Hid (decide (atL l (ex, ec, esy) < k + 1) = false) := Lib.hid (decide_eq_false (by omega))
            clear hat
            go_wp2_with fail
            go_quiet (fail)
            go_wp2_with fail
            have hS : ∀ m, S8 w3 (wr.drewN m) w.heap.size (ex, ec, esy) b (off + k * 3) (ox, oc, osy) 46 u6 _ := fun m => ⟨⟨k0, k1, k2, by show w.heap.size < wr.heap.size; omega, below_drewN hb m, h0, h1, h2, by show b < wr.heap.size; omega⟩, HROW.out⟩
            refine wp_region_held_drew (S := fun W => S8 w3 W w.heap.size (ex, ec, esy) b (off + k * 3) (ox, oc, osy) 46 u6 (putK l (ex, ec, esy) k)) (by kernel_rfl) (by exact start8 (hS _)) (fun hHeld => ?_)
            refine wpAnyH_take (i := 0) (oi := { dst := some 41, op := Op.move (Operand.tmp 7), type := 4, pos := "ref.go:150", after := #[], guard := none }) (v := ?v9_0) (by kernel_rfl) (by kernel_rfl) (by kernel_rfl) (by kernel_rfl) (fun _ _ _ h => h) (Or.inl ⟨by kernel_rfl, ?h9_0⟩) hHeld ?r9_0
            case h9_0 => (intro w hSw; (try dsimp only at hSw); go_simp; try with_reducible rfl)
            try simp only [Act.put, List.setIfInBounds_toArray, List.set_cons_zero, List.set_cons_succ]
            refine wpAnyH_take (i := 1) (oi := { dst := some 42, op := Op.unOp UnOp.not 4 (Operand.tmp 41), type := 4, pos := "ref.go:150", after := #[{ on := 0, ground := Ground.data }], guard := none }) (v := ?v9_1) (by kernel_rfl) (by kernel_rfl) (by kernel_rfl) (by kernel_rfl) (fun _ _ _ h => h) (Or.inl ⟨by kernel_rfl, ?h9_1⟩) hHeld ?r9_1
            case h9_1 => (intro w hSw; (try dsimp only at hSw); go_simp; try with_reducible rfl)
            try simp only [Act.put, List.setIfInBounds_toArray, List.set_cons_zero, List.set_cons_succ]
            refine wpAnyH_take (i := 2) (oi := { dst := some 43, op := Op.move (Operand.tmp 42), type := 4, pos := "ref.go:150", after := #[{ on := 1, ground := Ground.data }], guard := none }) (v := ?v9_2) (by kernel_rfl) (by kernel_rfl) (by kernel_rfl) (by kernel_rfl) (fun _ _ _ h => h) (Or.inl ⟨by kernel_rfl, ?h9_2⟩) hHeld ?r9_2
            case h9_2 => (intro w hSw; (try dsimp only at hSw); go_simp; try with_reducible rfl)
            try simp only [Act.put, List.setIfInBounds_toArray, List.set_cons_zero, List.set_cons_succ]
            refine wpAnyH_take (i := 3) (oi := { dst := some 44, op := Op.load 46 (Operand.tmp 3), type := 46, pos := "ref.go:150", after := #[{ on := 2, ground := Ground.guard }], guard := some (2, true) }) (v := ?v9_3) (by kernel_rfl) (by kernel_rfl) (by kernel_rfl) (by kernel_rfl) (fun _ _ _ h => h) (Or.inl ⟨by kernel_rfl, ?h9_3⟩) hHeld ?r9_3
            case h9_3 => (intro w hSw; (try dsimp only at hSw); go_simp; try with_reducible rfl)
            try simp only [Act.put, List.setIfInBounds_toArray, List.set_cons_zero, List.set_cons_succ]
            refine wpAnyH_take (i := 4) (oi := { dst := some 45, op := Op.move (Operand.tmp 0), type := 42, pos := "ref.go:150", after := #[{ on := 2, ground := Ground.guard }], guard := some (2, true) }) (v := ?v9_4) (by kernel_rfl) (by kernel_rfl) (by kernel_rfl) (by kernel_rfl) (fun _ _ _ h => h) (Or.inl ⟨by kernel_rfl, ?h9_4⟩) hHeld ?r9_4
            case h9_4 => (intro w hSw; (try dsimp only at hSw); go_simp; try with_reducible rfl)
            try simp only [Act.put, List.setIfInBounds_toArray, List.set_cons_zero, List.set_cons_succ]
            refine wpAnyH_take (i := 5) (oi := { dst := some 46, op := Op.move (Operand.tmp 8), type := 3, pos := "ref.go:150", after := #[{ on := 2, ground := Ground.guard }], guard := some (2, true) }) (v := ?v9_5) (by kernel_rfl) (by kernel_rfl) (by kernel_rfl) (by kernel_rfl) (fun _ _ _ h => h) (Or.inl ⟨by kernel_rfl, ?h9_5⟩) hHeld ?r9_5
            case h9_5 => (intro w hSw; (try dsimp only at hSw); go_simp; try with_reducible rfl)
            try simp only [Act.put, List.setIfInBounds_toArray, List.set_cons_zero, List.set_cons_succ]
            refine wpAnyH_take (i := 6) (oi := { dst := some 47, op := Op.indexAddr 42 (Operand.tmp 45) (Operand.tmp 46), type := 0, pos := "ref.go:150", after := #[{ on := 4, ground := Ground.data }, { on := 5, ground := Ground.data }, { on := 2, ground := Ground.guard }], guard := some (2, true) }) (v := ?v9_6) (by kernel_rfl) (by kernel_rfl) (by kernel_rfl) (by kernel_rfl) (fun _ _ _ h => h) (Or.inl ⟨by kernel_rfl, ?h9_6⟩) hHeld ?r9_6
            case h9_6 => (intro w hSw; (try dsimp only at hSw); go_simp; try with_reducible rfl)
            try simp only [Act.put, List.setIfInBounds_toArray, List.set_cons_zero, List.set_cons_succ]
            refine wpAnyH_take (i := 7) (oi := { dst := some 48, op := Op.load 46 (Operand.tmp 47), type := 46, pos := "ref.go:150", after := #[{ on := 6, ground := Ground.data }, { on := 2, ground := Ground.guard }], guard := some (2, true) }) (v := ?v9_7) (by kernel_rfl) (by kernel_rfl) (by kernel_rfl) (by kernel_rfl) (fun _ _ _ h => h) (Or.inl ⟨by kernel_rfl, ?h9_7⟩) hHeld ?r9_7
            case h9_7 => (intro w hSw; (try dsimp only at hSw); go_simp; try with_reducible rfl)
            try simp only [Act.put, List.setIfInBounds_toArray, List.set_cons_zero, List.set_cons_succ]
            refine wpAnyH_ready (rs := [8]) (by kernel_rfl) (by simp) ?_
            refine AllReadyH.cons (i := 8) (o := { dst := some 49, op := Op.call { callee := Callee.value (Operand.func 50), args := #[Operand.tmp 44, Operand.tmp 48], argTypes := #[46, 46] }, type := 4, pos := "ref.go:150", after := #[{ on := 3, ground := Ground.data }, { on := 7, ground := Ground.data }, { on := 2, ground := Ground.chain }, { on := 2, ground := Ground.guard }], guard := some (2, true) }) rfl (fun K hK => ?_) AllReadyH.nil
            go_simp
            refine (rahead_any (ex, ec, esy) (ox, oc, osy) _).mono ?_
            rintro e' w4 ⟨rfl, hb4⟩
            rw [HCD.out]
            go_wp2_with fail
            refine hK.out _ _ (by exact keep8 (by assumption) (by assumption)) (fun hHeld => ?_)
            clear hK K
            try simp only [Act.put, List.setIfInBounds_toArray, List.set_cons_zero, List.set_cons_succ]
            refine wpAnyH_take (i := 9) (oi := { dst := some 50, op := Op.pick (Operand.tmp 43) (Operand.tmp 49) (Operand.const (Value.bool false)), type := 4, pos := "ref.go:150", after := #[{ on := 2, ground := Ground.data }, { on := 8, ground := Ground.data }], guard := none }) (v := ?v9_9) (by kernel_rfl) (by kernel_rfl) (by kernel_rfl) (by kernel_rfl) (fun _ _ _ h => h) (Or.inl ⟨by kernel_rfl, ?h9_9⟩) hHeld ?r9_9
            case h9_9 => (intro w hSw; (try dsimp only at hSw); go_simp; try with_reducible rfl)
            try simp only [Act.put, List.setIfInBounds_toArray, List.set_cons_zero, List.set_cons_succ]
            refine wpAnyH_done (by kernel_rfl) ?_ _
            have HB := Lib.hid hHeld.1.2.2.2.2.1
            have HRW := Lib.hid hHeld.2
            obtain ⟨b0, b1, b2, q0, q1, q2⟩ : _ ∧ _ ∧ _ ∧ _ ∧ _ ∧ _ := ⟨hHeld.1.1, hHeld.1.2.1, hHeld.1.2.2.1, hHeld.1.2.2.2.2.2.1, hHeld.1.2.2.2.2.2.2.1, hHeld.1.2.2.2.2.2.2.2.1⟩
            clear hHeld hS k0 k1 k2 h0 h1 h2
            go_wp2_with (at_builtin; refine wpList_append_own _ rfl _ _ 42 rfl w3.heap.size 46 i0 (.agg #[.string ⟨#[]⟩, .int .u8 0, .string ⟨#[]⟩]) 3 40 Tryz.underlying42 hi hz0 hz1 hz2 rfl (by decide) _ _ _ rfl ((HRW.out).alloc _) ⟨w4.heap.size, 0, none⟩ 1 1 [str ox, byteV oc, str osy] rfl rfl ?a4 ?b4 ?c4 ?d4 ?e4 ?_)
            try (case a4 => first | exact three_new _ _ rfl _ _ _ _ | exact three_new _ _ (by simp) _ _ _ _ | exact three_new0 _ _ rfl _ _ _ _ | exact three_new0 _ _ (by simp) _ _ _ _)
            case b4 => simp [Value.oneCell']
            case c4 => (unfold maxLen; omega)
            case d4 => omega
            case e4 => (have := (HB.out).size; first | omega | (simp; omega))
            intro v5 w5 hown4 hgrow4 _
            have HG4 := Lib.hid (((HB.out).alloc (by have := (HB.out).size; first | omega | (simp; omega)) (.cells #[str ox, byteV oc, str osy] 46)).grown hgrow4 (by have := (HB.out).size; first | omega | (simp; omega)) (own_ge (HRW.out)))
            have HR4 := Lib.hid (rowE_put (f := (ox, oc, osy)) hown4 (by simp))
            clear hgrow4 hown4
            go_wp2_with fail
            go_roundw
            case rel => exact ⟨k + 1, by omega, by go_num, by rw [HPT.out], by rw [HPK.out]; exact HR4.out, HG4.out, HNO.out HTF.out⟩
            case measure => simp [intOf]; omega
      · cases hc : (oc == ec)
        · have HTF : Hid (twE (ex, ec, esy) (ox, oc, osy) = false) := Lib.hid (by rw [tw_parts]; simp only [hx, hc]; rfl)
          rw [hc] at hu; clear hc
          rcases Nat.lt_or_ge (atL l (ex, ec, esy)) k with hat | hat
          · rw [decide_eq_true hat] at hp
            subst hp
            have HPK := Lib.hid (HSM.out (by omega))
            have HPT : Hid (decide (atL l (ex, ec, esy) < k + 1) = true) := Lib.hid (decide_eq_true (by omega))
            clear hat
            go_wp2_with fail
            go_quiet (fail)
            go_wp2_with fail
            have hS : ∀ m, S8 w3 (wr.drewN m) w.heap.size (ex, ec, esy) b (off + k * 3) (ox, oc, osy) 46 u6 _ := fun m => ⟨⟨k0, k1, k2, by show w.heap.size < wr.heap.size; omega, below_drewN hb m, h0, h1, h2, by show b < wr.heap.size; omega⟩, HROW.out⟩
            refine wp_region_held_drew (S := fun W => S8 w3 W w.heap.size (ex, ec, esy) b (off + k * 3) (ox, oc, osy) 46 u6 (putK l (ex, ec, esy) k)) (by kernel_rfl) (by exact start8 (hS _)) (fun hHeld => ?_)
            refine wpAnyH_take (i := 0) (oi := { dst := some 41, op := Op.move (Operand.tmp 7), type := 4, pos := "ref.go:150", after := #[], guard := none }) (v := ?v10_0) (by kernel_rfl) (by kernel_rfl) (by kernel_rfl) (by kernel_rfl) (fun _ _ _ h => h) (Or.inl ⟨by kernel_rfl, ?h10_0⟩) hHeld ?r10_0
            case h10_0 => (intro w hSw; (try dsimp only at hSw); go_simp; try with_reducible rfl)
            try simp only [Act.put, List.setIfInBounds_toArray, List.set_cons_zero, List.set_cons_succ]
            refine wpAnyH_take (i := 1) (oi := { dst := some 42, op := Op.unOp UnOp.not 4 (Operand.tmp 41), type := 4, pos := "ref.go:150", after := #[{ on := 0, ground := Ground.data }], guard := none }) (v := ?v10_1) (by kernel_rfl) (by kernel_rfl) (by kernel_rfl) (by kernel_rfl) (fun _ _ _ h => h) (Or.inl ⟨by kernel_rfl, ?h10_1⟩) hHeld ?r10_1
            case h10_1 => (intro w hSw; (try dsimp only at hSw); go_simp; try with_reducible rfl)
            try simp only [Act.put, List.setIfInBounds_toArray, List.set_cons_zero, List.set_cons_succ]
            refine wpAnyH_take (i := 2) (oi := { dst := some 43, op := Op.move (Operand.tmp 42), type := 4, pos := "ref.go:150", after := #[{ on := 1, ground := Ground.data }], guard := none }) (v := ?v10_2) (by kernel_rfl) (by kernel_rfl) (by kernel_rfl) (by kernel_rfl) (fun _ _ _ h => h) (Or.inl ⟨by kernel_rfl, ?h10_2⟩) hHeld ?r10_2
            case h10_2 => (intro w hSw; (try dsimp only at hSw); go_simp; try with_reducible rfl)
            try simp only [Act.put, List.setIfInBounds_toArray, List.set_cons_zero, List.set_cons_succ]
            refine wpAnyH_take (i := 3) (oi := { dst := some 44, op := Op.load 46 (Operand.tmp 3), type := 46, pos := "ref.go:150", after := #[{ on := 2, ground := Ground.guard }], guard := some (2, true) }) (v := undef) (by kernel_rfl) (by kernel_rfl) (by kernel_rfl) (by kernel_rfl) (fun _ _ _ h => h) (Or.inr ⟨by kernel_rfl, rfl⟩) hHeld ?_
            try simp only [Act.put, List.setIfInBounds_toArray, List.set_cons_zero, List.set_cons_succ]
            refine wpAnyH_take (i := 4) (oi := { dst := some 45, op := Op.move (Operand.tmp 0), type := 42, pos := "ref.go:150", after := #[{ on := 2, ground := Ground.guard }], guard := some (2, true) }) (v := undef) (by kernel_rfl) (by kernel_rfl) (by kernel_rfl) (by kernel_rfl) (fun _ _ _ h => h) (Or.inr ⟨by kernel_rfl, rfl⟩) hHeld ?_
            try simp only [Act.put, List.setIfInBounds_toArray, List.set_cons_zero, List.set_cons_succ]
            refine wpAnyH_take (i := 5) (oi := { dst := some 46, op := Op.move (Operand.tmp 8), type := 3, pos := "ref.go:150", after := #[{ on := 2, ground := Ground.guard }], guard := some (2, true) }) (v := undef) (by kernel_rfl) (by kernel_rfl) (by kernel_rfl) (by kernel_rfl) (fun _ _ _ h => h) (Or.inr ⟨by kernel_rfl, rfl⟩) hHeld ?_
            try simp only [Act.put, List.setIfInBounds_toArray, List.set_cons_zero, List.set_cons_succ]
            refine wpAnyH_take (i := 6) (oi := { dst := some 47, op := Op.indexAddr 42 (Operand.tmp 45) (Operand.tmp 46), type := 0, pos := "ref.go:150", after := #[{ on := 4, ground := Ground.data }, { on := 5, ground := Ground.data }, { on := 2, ground := Ground.guard }], guard := some (2, true) }) (v := undef) (by kernel_rfl) (by kernel_rfl) (by kernel_rfl) (by kernel_rfl) (fun _ _ _ h => h) (Or.inr ⟨by kernel_rfl, rfl⟩) hHeld ?_
            try simp only [Act.put, List.setIfInBounds_toArray, List.set_cons_zero, List.set_cons_succ]
            refine wpAnyH_take (i := 7) (oi := { dst := some 48, op := Op.load 46 (Operand.tmp 47), type := 46, pos := "ref.go:150", after := #[{ on := 6, ground := Ground.data }, { on := 2, ground := Ground.guard }], guard := some (2, true) }) (v := undef) (by kernel_rfl) (by kernel_rfl) (by kernel_rfl) (by kernel_rfl) (fun _ _ _ h => h) (Or.inr ⟨by kernel_rfl, rfl⟩) hHeld ?_
            try simp only [Act.put, List.setIfInBounds_toArray, List.set_cons_zero, List.set_cons_succ]
            refine wpAnyH_take (i := 8) (oi := { dst := some 49, op := Op.call { callee := Callee.value (Operand.func 50), args := #[Operand.tmp 44, Operand.tmp 48], argTypes := #[46, 46] }, type := 4, pos := "ref.go:150", after := #[{ on := 3, ground := Ground.data }, { on := 7, ground := Ground.data }, { on := 2, ground := Ground.chain }, { on := 2, ground := Ground.guard }], guard := some (2, true) }) (v := undef) (by kernel_rfl) (by kernel_rfl) (by kernel_rfl) (by kernel_rfl) (fun _ _ _ h => h) (Or.inr ⟨by kernel_rfl, rfl⟩) hHeld ?_
            try simp only [Act.put, List.setIfInBounds_toArray, List.set_cons_zero, List.set_cons_succ]
            refine wpAnyH_take (i := 9) (oi := { dst := some 50, op := Op.pick (Operand.tmp 43) (Operand.tmp 49) (Operand.const (Value.bool false)), type := 4, pos := "ref.go:150", after := #[{ on := 2, ground := Ground.data }, { on := 8, ground := Ground.data }], guard := none }) (v := ?v10_9) (by kernel_rfl) (by kernel_rfl) (by kernel_rfl) (by kernel_rfl) (fun _ _ _ h => h) (Or.inl ⟨by kernel_rfl, ?h10_9⟩) hHeld ?r10_9
            case h10_9 => (intro w hSw; (try dsimp only at hSw); go_simp; try with_reducible rfl)
            try simp only [Act.put, List.setIfInBounds_toArray, List.set_cons_zero, List.set_cons_succ]
            refine wpAnyH_done (by kernel_rfl) ?_ _
            have HB := Lib.hid hHeld.1.2.2.2.2.1
            have HRW := Lib.hid hHeld.2
            obtain ⟨q0, q1, q2⟩ : _ ∧ _ ∧ _ := ⟨hHeld.1.2.2.2.2.2.1, hHeld.1.2.2.2.2.2.2.1, hHeld.1.2.2.2.2.2.2.2.1⟩
            clear hHeld hS
            go_wp2_with (at_builtin; refine wpList_append_own _ rfl _ _ 42 rfl w3.heap.size 46 i0 (.agg #[.string ⟨#[]⟩, .int .u8 0, .string ⟨#[]⟩]) 3 40 Tryz.underlying42 hi hz0 hz1 hz2 rfl (by decide) _ _ _ rfl ((HRW.out).alloc _) ⟨wr.heap.size, 0, none⟩ 1 1 [str ox, byteV oc, str osy] rfl rfl ?a5 ?b5 ?c5 ?d5 ?e5 ?_)
            try (case a5 => first | exact three_new _ _ rfl _ _ _ _ | exact three_new _ _ (by simp) _ _ _ _ | exact three_new0 _ _ rfl _ _ _ _ | exact three_new0 _ _ (by simp) _ _ _ _)
            case b5 => simp [Value.oneCell']
            case c5 => (unfold maxLen; omega)
            case d5 => omega
            case e5 => (have := (HB.out).size; first | omega | (simp; omega))
            intro v5 w5 hown5 hgrow5 _
            have HG5 := Lib.hid (((HB.out).alloc (by have := (HB.out).size; first | omega | (simp; omega)) (.cells #[str ox, byteV oc, str osy] 46)).grown hgrow5 (by have := (HB.out).size; first | omega | (simp; omega)) (own_ge (HRW.out)))
            have HR5 := Lib.hid (rowE_put (f := (ox, oc, osy)) hown5 (by simp))
            clear hgrow5 hown5
            go_wp2_with fail
            go_roundw
            case rel => exact ⟨k + 1, by omega, by go_num, by rw [HPT.out], by rw [HPK.out]; exact HR5.out, HG5.out, HNO.out HTF.out⟩
            case measure => simp [intOf]; omega
          · rw [decide_eq_false (by omega)] at hp
            subst hp
            have HHD := Lib.hid (HHR.out hat HTF.out)
            rcases Nat.eq_or_lt_of_le hat with hat | hat
            · have HCD : Hid (decide (cmpL (ex, ec, esy) (ox, oc, osy) < 0) = true) := Lib.hid (HHD.out.trans (decide_eq_true hat.symm))
              have HPK := Lib.hid (HPA.out hat.symm)
              have HPT : Hid (decide (atL l (ex, ec, esy) < k + 1) = true) := Lib.hid (decide_eq_true (by omega))
              clear hat
              go_wp2_with fail
              go_quiet (fail)
              go_wp2_with fail
              have hS : ∀ m, S8 w3 (wr.drewN m) w.heap.size (ex, ec, esy) b (off + k * 3) (ox, oc, osy) 46 u6 _ := fun m => ⟨⟨k0, k1, k2, by show w.heap.size < wr.heap.size; omega, below_drewN hb m, h0, h1, h2, by show b < wr.heap.size; omega⟩, HROW.out⟩
              refine wp_region_held_drew (S := fun W => S8 w3 W w.heap.size (ex, ec, esy) b (off + k * 3) (ox, oc, osy) 46 u6 (putK l (ex, ec, esy) k)) (by kernel_rfl) (by exact start8 (hS _)) (fun hHeld => ?_)
              refine wpAnyH_take (i := 0) (oi := { dst := some 41, op := Op.move (Operand.tmp 7), type := 4, pos := "ref.go:150", after := #[], guard := none }) (v := ?v11_0) (by kernel_rfl) (by kernel_rfl) (by kernel_rfl) (by kernel_rfl) (fun _ _ _ h => h) (Or.inl ⟨by kernel_rfl, ?h11_0⟩) hHeld ?r11_0
              case h11_0 => (intro w hSw; (try dsimp only at hSw); go_simp; try with_reducible rfl)
              try simp only [Act.put, List.setIfInBounds_toArray, List.set_cons_zero, List.set_cons_succ]
              refine wpAnyH_take (i := 1) (oi := { dst := some 42, op := Op.unOp UnOp.not 4 (Operand.tmp 41), type := 4, pos := "ref.go:150", after := #[{ on := 0, ground := Ground.data }], guard := none }) (v := ?v11_1) (by kernel_rfl) (by kernel_rfl) (by kernel_rfl) (by kernel_rfl) (fun _ _ _ h => h) (Or.inl ⟨by kernel_rfl, ?h11_1⟩) hHeld ?r11_1
              case h11_1 => (intro w hSw; (try dsimp only at hSw); go_simp; try with_reducible rfl)
              try simp only [Act.put, List.setIfInBounds_toArray, List.set_cons_zero, List.set_cons_succ]
              refine wpAnyH_take (i := 2) (oi := { dst := some 43, op := Op.move (Operand.tmp 42), type := 4, pos := "ref.go:150", after := #[{ on := 1, ground := Ground.data }], guard := none }) (v := ?v11_2) (by kernel_rfl) (by kernel_rfl) (by kernel_rfl) (by kernel_rfl) (fun _ _ _ h => h) (Or.inl ⟨by kernel_rfl, ?h11_2⟩) hHeld ?r11_2
              case h11_2 => (intro w hSw; (try dsimp only at hSw); go_simp; try with_reducible rfl)
              try simp only [Act.put, List.setIfInBounds_toArray, List.set_cons_zero, List.set_cons_succ]
              refine wpAnyH_take (i := 3) (oi := { dst := some 44, op := Op.load 46 (Operand.tmp 3), type := 46, pos := "ref.go:150", after := #[{ on := 2, ground := Ground.guard }], guard := some (2, true) }) (v := ?v11_3) (by kernel_rfl) (by kernel_rfl) (by kernel_rfl) (by kernel_rfl) (fun _ _ _ h => h) (Or.inl ⟨by kernel_rfl, ?h11_3⟩) hHeld ?r11_3
              case h11_3 => (intro w hSw; (try dsimp only at hSw); go_simp; try with_reducible rfl)
              try simp only [Act.put, List.setIfInBounds_toArray, List.set_cons_zero, List.set_cons_succ]
              refine wpAnyH_take (i := 4) (oi := { dst := some 45, op := Op.move (Operand.tmp 0), type := 42, pos := "ref.go:150", after := #[{ on := 2, ground := Ground.guard }], guard := some (2, true) }) (v := ?v11_4) (by kernel_rfl) (by kernel_rfl) (by kernel_rfl) (by kernel_rfl) (fun _ _ _ h => h) (Or.inl ⟨by kernel_rfl, ?h11_4⟩) hHeld ?r11_4
              case h11_4 => (intro w hSw; (try dsimp only at hSw); go_simp; try with_reducible rfl)
              try simp only [Act.put, List.setIfInBounds_toArray, List.set_cons_zero, List.set_cons_succ]
              refine wpAnyH_take (i := 5) (oi := { dst := some 46, op := Op.move (Operand.tmp 8), type := 3, pos := "ref.go:150", after := #[{ on := 2, ground := Ground.guard }], guard := some (2, true) }) (v := ?v11_5) (by kernel_rfl) (by kernel_rfl) (by kernel_rfl) (by kernel_rfl) (fun _ _ _ h => h) (Or.inl ⟨by kernel_rfl, ?h11_5⟩) hHeld ?r11_5
              case h11_5 => (intro w hSw; (try dsimp only at hSw); go_simp; try with_reducible rfl)
              try simp only [Act.put, List.setIfInBounds_toArray, List.set_cons_zero, List.set_cons_succ]
              refine wpAnyH_take (i := 6) (oi := { dst := some 47, op := Op.indexAddr 42 (Operand.tmp 45) (Operand.tmp 46), type := 0, pos := "ref.go:150", after := #[{ on := 4, ground := Ground.data }, { on := 5, ground := Ground.data }, { on := 2, ground := Ground.guard }], guard := some (2, true) }) (v := ?v11_6) (by kernel_rfl) (by kernel_rfl) (by kernel_rfl) (by kernel_rfl) (fun _ _ _ h => h) (Or.inl ⟨by kernel_rfl, ?h11_6⟩) hHeld ?r11_6
              case h11_6 => (intro w hSw; (try dsimp only at hSw); go_simp; try with_reducible rfl)
              try simp only [Act.put, List.setIfInBounds_toArray, List.set_cons_zero, List.set_cons_succ]
              refine wpAnyH_take (i := 7) (oi := { dst := some 48, op := Op.load 46 (Operand.tmp 47), type := 46, pos := "ref.go:150", after := #[{ on := 6, ground := Ground.data }, { on := 2, ground := Ground.guard }], guard := some (2, true) }) (v := ?v11_7) (by kernel_rfl) (by kernel_rfl) (by kernel_rfl) (by kernel_rfl) (fun _ _ _ h => h) (Or.inl ⟨by kernel_rfl, ?h11_7⟩) hHeld ?r11_7
              case h11_7 => (intro w hSw; (try dsimp only at hSw); go_simp; try with_reducible rfl)
              try simp only [Act.put, List.setIfInBounds_toArray, List.set_cons_zero, List.set_cons_succ]
              refine wpAnyH_ready (rs := [8]) (by kernel_rfl) (by simp) ?_
              refine AllReadyH.cons (i := 8) (o := { dst := some 49, op := Op.call { callee := Callee.value (Operand.func 50), args := #[Operand.tmp 44, Operand.tmp 48], argTypes := #[46, 46] }, type := 4, pos := "ref.go:150", after := #[{ on := 3, ground := Ground.data }, { on := 7, ground := Ground.data }, { on := 2, ground := Ground.chain }, { on := 2, ground := Ground.guard }], guard := some (2, true) }) rfl (fun K hK => ?_) AllReadyH.nil
              go_simp
              refine (rahead_any (ex, ec, esy) (ox, oc, osy) _).mono ?_
              rintro e' w4 ⟨rfl, hb4⟩
              rw [HCD.out]
              go_wp2_with fail
              refine hK.out _ _ (by exact keep8 (by assumption) (by assumption)) (fun hHeld => ?_)
              clear hK K
              try simp only [Act.put, List.setIfInBounds_toArray, List.set_cons_zero, List.set_cons_succ]
              refine wpAnyH_take (i := 9) (oi := { dst := some 50, op := Op.pick (Operand.tmp 43) (Operand.tmp 49) (Operand.const (Value.bool false)), type := 4, pos := "ref.go:150", after := #[{ on := 2, ground := Ground.data }, { on := 8, ground := Ground.data }], guard := none }) (v := ?v11_9) (by kernel_rfl) (by kernel_rfl) (by kernel_rfl) (by kernel_rfl) (fun _ _ _ h => h) (Or.inl ⟨by kernel_rfl, ?h11_9⟩) hHeld ?r11_9
              case h11_9 => (intro w hSw; (try dsimp only at hSw); go_simp; try with_reducible rfl)
              try simp only [Act.put, List.setIfInBounds_toArray, List.set_cons_zero, List.set_cons_succ]
              refine wpAnyH_done (by kernel_rfl) ?_ _
              have HB := Lib.hid hHeld.1.2.2.2.2.1
              have HRW := Lib.hid hHeld.2
              obtain ⟨b0, b1, b2, q0, q1, q2⟩ : _ ∧ _ ∧ _ ∧ _ ∧ _ ∧ _ := ⟨hHeld.1.1, hHeld.1.2.1, hHeld.1.2.2.1, hHeld.1.2.2.2.2.2.1, hHeld.1.2.2.2.2.2.2.1, hHeld.1.2.2.2.2.2.2.2.1⟩
              clear hHeld hS k0 k1 k2 h0 h1 h2
              go_wp2_with (at_builtin; refine wpList_append_own _ rfl _ _ 42 rfl w3.heap.size 46 i0 (.agg #[.string ⟨#[]⟩, .int .u8 0, .string ⟨#[]⟩]) 3 40 Tryz.underlying42 hi hz0 hz1 hz2 rfl (by decide) _ _ _ rfl ((HRW.out).alloc _) ⟨w4.heap.size, 0, none⟩ 1 1 [str ex, byteV ec, str esy] rfl rfl ?a6 ?b6 ?c6 ?d6 ?e6 ?_)
              try (case a6 => first | exact three_new _ _ rfl _ _ _ _ | exact three_new _ _ (by simp) _ _ _ _ | exact three_new0 _ _ rfl _ _ _ _ | exact three_new0 _ _ (by simp) _ _ _ _)
              case b6 => simp [Value.oneCell']
              case c6 => (unfold maxLen; omega)
              case d6 => omega
              case e6 => (have := (HB.out).size; first | omega | (simp; omega))
              intro v5 w5 hown6 hgrow6 _
              have HG6 := Lib.hid (((HB.out).alloc (by have := (HB.out).size; first | omega | (simp; omega)) (.cells #[str ex, byteV ec, str esy] 46)).grown hgrow6 (by have := (HB.out).size; first | omega | (simp; omega)) (own_ge (HRW.out)))
              have HR6 := Lib.hid (rowE_put (f := (ex, ec, esy)) hown6 (by simp))
              clear hgrow6 hown6
              have hbz : b < w3.heap.size := by omega
              skip
              replace q0 := ((HG6.out).cell (p := ⟨b, _, none⟩) hbz).trans (((HB.out).cell (p := ⟨b, _, none⟩) hbz).symm.trans q0)
              replace q1 := ((HG6.out).cell (p := ⟨b, _, none⟩) hbz).trans (((HB.out).cell (p := ⟨b, _, none⟩) hbz).symm.trans q1)
              replace q2 := ((HG6.out).cell (p := ⟨b, _, none⟩) hbz).trans (((HB.out).cell (p := ⟨b, _, none⟩) hbz).symm.trans q2)
              have hpl2 : (putK l (ex, ec, esy) k ++ [(ex, ec, esy)]).length ≤ k + 2 := by simp; omega
              clear b0 b1 b2
              go_wp2_with (at_builtin; refine wpList_append_own _ rfl _ _ 42 rfl w3.heap.size 46 i0 (.agg #[.string ⟨#[]⟩, .int .u8 0, .string ⟨#[]⟩]) 3 40 Tryz.underlying42 hi hz0 hz1 hz2 rfl (by decide) _ _ _ rfl ((HR6.out).alloc _) ⟨w5.heap.size, 0, none⟩ 1 1 [str ox, byteV oc, str osy] rfl rfl ?a7 ?b7 ?c7 ?d7 ?e7 ?_)
              try (case a7 => first | exact three_new _ _ rfl _ _ _ _ | exact three_new _ _ (by simp) _ _ _ _ | exact three_new0 _ _ rfl _ _ _ _ | exact three_new0 _ _ (by simp) _ _ _ _)
              case b7 => simp [Value.oneCell']
              case c7 => (unfold maxLen; omega)
              case d7 => omega
              case e7 => (have := (HG6.out).size; first | omega | (simp; omega))
              intro v6 w6 hown7 hgrow7 _
              have HG7 := Lib.hid (((HG6.out).alloc (by have := (HG6.out).size; first | omega | (simp; omega)) (.cells #[str ox, byteV oc, str osy] 46)).grown hgrow7 (by have := (HG6.out).size; first | omega | (simp; omega)) (own_ge (HR6.out)))
              have HR7 := Lib.hid (rowE_put (f := (ox, oc, osy)) hown7 (by simp))
              clear hgrow7 hown7
              go_wp2_with fail
              go_roundw
              case rel => exact ⟨k + 1, by omega, by go_num, by rw [HPT.out], by rw [HPK.out]; exact HR7.out, HG7.out, HNO.out HTF.out⟩
              case measure => simp [intOf]; omega
            · have HCD : Hid (decide (cmpL (ex, ec, esy) (ox, oc, osy) < 0) = false) := Lib.hid (HHD.out.trans (decide_eq_false (by omega)))
              have HPK := Lib.hid (HSM.out (by omega))
              have HPT : Hid (decide (atL l (ex, ec, esy) < k + 1) = false) := Lib.hid (decide_eq_false (by omega))
              clear hat
              go_wp2_with fail
              go_quiet (fail)
              go_wp2_with fail
              have hS : ∀ m, S8 w3 (wr.drewN m) w.heap.size (ex, ec, esy) b (off + k * 3) (ox, oc, osy) 46 u6 _ := fun m => ⟨⟨k0, k1, k2, by show w.heap.size < wr.heap.size; omega, below_drewN hb m, h0, h1, h2, by show b < wr.heap.size; omega⟩, HROW.out⟩
              refine wp_region_held_drew (S := fun W => S8 w3 W w.heap.size (ex, ec, esy) b (off + k * 3) (ox, oc, osy) 46 u6 (putK l (ex, ec, esy) k)) (by kernel_rfl) (by exact start8 (hS _)) (fun hHeld => ?_)
              refine wpAnyH_take (i := 0) (oi := { dst := some 41, op := Op.move (Operand.tmp 7), type := 4, pos := "ref.go:150", after := #[], guard := none }) (v := ?v12_0) (by kernel_rfl) (by kernel_rfl) (by kernel_rfl) (by kernel_rfl) (fun _ _ _ h => h) (Or.inl ⟨by kernel_rfl, ?h12_0⟩) hHeld ?r12_0
              case h12_0 => (intro w hSw; (try dsimp only at hSw); go_simp; try with_reducible rfl)
              try simp only [Act.put, List.setIfInBounds_toArray, List.set_cons_zero, List.set_cons_succ]
              refine wpAnyH_take (i := 1) (oi := { dst := some 42, op := Op.unOp UnOp.not 4 (Operand.tmp 41), type := 4, pos := "ref.go:150", after := #[{ on := 0, ground := Ground.data }], guard := none }) (v := ?v12_1) (by kernel_rfl) (by kernel_rfl) (by kernel_rfl) (by kernel_rfl) (fun _ _ _ h => h) (Or.inl ⟨by kernel_rfl, ?h12_1⟩) hHeld ?r12_1
              case h12_1 => (intro w hSw; (try dsimp only at hSw); go_simp; try with_reducible rfl)
              try simp only [Act.put, List.setIfInBounds_toArray, List.set_cons_zero, List.set_cons_succ]
              refine wpAnyH_take (i := 2) (oi := { dst := some 43, op := Op.move (Operand.tmp 42), type := 4, pos := "ref.go:150", after := #[{ on := 1, ground := Ground.data }], guard := none }) (v := ?v12_2) (by kernel_rfl) (by kernel_rfl) (by kernel_rfl) (by kernel_rfl) (fun _ _ _ h => h) (Or.inl ⟨by kernel_rfl, ?h12_2⟩) hHeld ?r12_2
              case h12_2 => (intro w hSw; (try dsimp only at hSw); go_simp; try with_reducible rfl)
              try simp only [Act.put, List.setIfInBounds_toArray, List.set_cons_zero, List.set_cons_succ]
              refine wpAnyH_take (i := 3) (oi := { dst := some 44, op := Op.load 46 (Operand.tmp 3), type := 46, pos := "ref.go:150", after := #[{ on := 2, ground := Ground.guard }], guard := some (2, true) }) (v := ?v12_3) (by kernel_rfl) (by kernel_rfl) (by kernel_rfl) (by kernel_rfl) (fun _ _ _ h => h) (Or.inl ⟨by kernel_rfl, ?h12_3⟩) hHeld ?r12_3
              case h12_3 => (intro w hSw; (try dsimp only at hSw); go_simp; try with_reducible rfl)
              try simp only [Act.put, List.setIfInBounds_toArray, List.set_cons_zero, List.set_cons_succ]
              refine wpAnyH_take (i := 4) (oi := { dst := some 45, op := Op.move (Operand.tmp 0), type := 42, pos := "ref.go:150", after := #[{ on := 2, ground := Ground.guard }], guard := some (2, true) }) (v := ?v12_4) (by kernel_rfl) (by kernel_rfl) (by kernel_rfl) (by kernel_rfl) (fun _ _ _ h => h) (Or.inl ⟨by kernel_rfl, ?h12_4⟩) hHeld ?r12_4
              case h12_4 => (intro w hSw; (try dsimp only at hSw); go_simp; try with_reducible rfl)
              try simp only [Act.put, List.setIfInBounds_toArray, List.set_cons_zero, List.set_cons_succ]
              refine wpAnyH_take (i := 5) (oi := { dst := some 46, op := Op.move (Operand.tmp 8), type := 3, pos := "ref.go:150", after := #[{ on := 2, ground := Ground.guard }], guard := some (2, true) }) (v := ?v12_5) (by kernel_rfl) (by kernel_rfl) (by kernel_rfl) (by kernel_rfl) (fun _ _ _ h => h) (Or.inl ⟨by kernel_rfl, ?h12_5⟩) hHeld ?r12_5
              case h12_5 => (intro w hSw; (try dsimp only at hSw); go_simp; try with_reducible rfl)
              try simp only [Act.put, List.setIfInBounds_toArray, List.set_cons_zero, List.set_cons_succ]
              refine wpAnyH_take (i := 6) (oi := { dst := some 47, op := Op.indexAddr 42 (Operand.tmp 45) (Operand.tmp 46), type := 0, pos := "ref.go:150", after := #[{ on := 4, ground := Ground.data }, { on := 5, ground := Ground.data }, { on := 2, ground := Ground.guard }], guard := some (2, true) }) (v := ?v12_6) (by kernel_rfl) (by kernel_rfl) (by kernel_rfl) (by kernel_rfl) (fun _ _ _ h => h) (Or.inl ⟨by kernel_rfl, ?h12_6⟩) hHeld ?r12_6
              case h12_6 => (intro w hSw; (try dsimp only at hSw); go_simp; try with_reducible rfl)
              try simp only [Act.put, List.setIfInBounds_toArray, List.set_cons_zero, List.set_cons_succ]
              refine wpAnyH_take (i := 7) (oi := { dst := some 48, op := Op.load 46 (Operand.tmp 47), type := 46, pos := "ref.go:150", after := #[{ on := 6, ground := Ground.data }, { on := 2, ground := Ground.guard }], guard := some (2, true) }) (v := ?v12_7) (by kernel_rfl) (by kernel_rfl) (by kernel_rfl) (by kernel_rfl) (fun _ _ _ h => h) (Or.inl ⟨by kernel_rfl, ?h12_7⟩) hHeld ?r12_7
              case h12_7 => (intro w hSw; (try dsimp only at hSw); go_simp; try with_reducible rfl)
              try simp only [Act.put, List.setIfInBounds_toArray, List.set_cons_zero, List.set_cons_succ]
              refine wpAnyH_ready (rs := [8]) (by kernel_rfl) (by simp) ?_
              refine AllReadyH.cons (i := 8) (o := { dst := some 49, op := Op.call { callee := Callee.value (Operand.func 50), args := #[Operand.tmp 44, Operand.tmp 48], argTypes := #[46, 46] }, type := 4, pos := "ref.go:150", after := #[{ on := 3, ground := Ground.data }, { on := 7, ground := Ground.data }, { on := 2, ground := Ground.chain }, { on := 2, ground := Ground.guard }], guard := some (2, true) }) rfl (fun K hK => ?_) AllReadyH.nil
              go_simp
              refine (rahead_any (ex, ec, esy) (ox, oc, osy) _).mono ?_
              rintro e' w4 ⟨rfl, hb4⟩
              rw [HCD.out]
              go_wp2_with fail
              refine hK.out _ _ (by exact keep8 (by assumption) (by assumption)) (fun hHeld => ?_)
              clear hK K
              try simp only [Act.put, List.setIfInBounds_toArray, List.set_cons_zero, List.set_cons_succ]
              refine wpAnyH_take (i := 9) (oi := { dst := some 50, op := Op.pick (Operand.tmp 43) (Operand.tmp 49) (Operand.const (Value.bool false)), type := 4, pos := "ref.go:150", after := #[{ on := 2, ground := Ground.data }, { on := 8, ground := Ground.data }], guard := none }) (v := ?v12_9) (by kernel_rfl) (by kernel_rfl) (by kernel_rfl) (by kernel_rfl) (fun _ _ _ h => h) (Or.inl ⟨by kernel_rfl, ?h12_9⟩) hHeld ?r12_9
              case h12_9 => (intro w hSw; (try dsimp only at hSw); go_simp; try with_reducible rfl)
              try simp only [Act.put, List.setIfInBounds_toArray, List.set_cons_zero, List.set_cons_succ]
              refine wpAnyH_done (by kernel_rfl) ?_ _
              have HB := Lib.hid hHeld.1.2.2.2.2.1
              have HRW := Lib.hid hHeld.2
              obtain ⟨b0, b1, b2, q0, q1, q2⟩ : _ ∧ _ ∧ _ ∧ _ ∧ _ ∧ _ := ⟨hHeld.1.1, hHeld.1.2.1, hHeld.1.2.2.1, hHeld.1.2.2.2.2.2.1, hHeld.1.2.2.2.2.2.2.1, hHeld.1.2.2.2.2.2.2.2.1⟩
              clear hHeld hS k0 k1 k2 h0 h1 h2
              go_wp2_with (at_builtin; refine wpList_append_own _ rfl _ _ 42 rfl w3.heap.size 46 i0 (.agg #[.string ⟨#[]⟩, .int .u8 0, .string ⟨#[]⟩]) 3 40 Tryz.underlying42 hi hz0 hz1 hz2 rfl (by decide) _ _ _ rfl ((HRW.out).alloc _) ⟨w4.heap.size, 0, none⟩ 1 1 [str ox, byteV oc, str osy] rfl rfl ?a8 ?b8 ?c8 ?d8 ?e8 ?_)
              try (case a8 => first | exact three_new _ _ rfl _ _ _ _ | exact three_new _ _ (by simp) _ _ _ _ | exact three_new0 _ _ rfl _ _ _ _ | exact three_new0 _ _ (by simp) _ _ _ _)
              case b8 => simp [Value.oneCell']
              case c8 => (unfold maxLen; omega)
              case d8 => omega
              case e8 => (have := (HB.out).size; first | omega | (simp; omega))
              intro v5 w5 hown8 hgrow8 _
              have HG8 := Lib.hid (((HB.out).alloc (by have := (HB.out).size; first | omega | (simp; omega)) (.cells #[str ox, byteV oc, str osy] 46)).grown hgrow8 (by have := (HB.out).size; first | omega | (simp; omega)) (own_ge (HRW.out)))
              have HR8 := Lib.hid (rowE_put (f := (ox, oc, osy)) hown8 (by simp))
              clear hgrow8 hown8
              go_wp2_with fail
              go_roundw
              case rel => exact ⟨k + 1, by omega, by go_num, by rw [HPT.out], by rw [HPK.out]; exact HR8.out, HG8.out, HNO.out HTF.out⟩
              case measure => simp [intOf]; omega
        · rw [hc] at hu
          have HZ : Hid (raddR l (ex, ec, esy) = ([], 330)) := Lib.hid (by rw [HXX.out, if_pos (HTW.out (by rw [tw_parts]; simp only [hx, hc]; rfl))])
          clear hc
          rw [HZ.out]
          go_wp2_with fail
          go_quiet (fail)
          go_wp2_with fail
          go_ret2
          exact RdPost.none_ 330 (hb1.trans ((below_drewN hb _).mono hws))
    · obtain rfl : k = l.length := by omega
      obtain ⟨k0, k1, k2⟩ := box_cellsT (hbk.later hb)
      have HTN := Lib.hid (tw_none hno); clear hno
      have HROW := Lib.hid hrow; clear hrow
      have HB := Lib.hid hb
      -- the list so far, whole at last
      have HCL := Lib.hid (fun W hr => rclash_any l (ex, ec, esy) A c W (by omega) hr)
      cases hany : (l.any fun o => clashL o (ex, ec, esy))
      all_goals
        have HK := Lib.hid hany; clear hany
        rw [HK.out] at HCL
        rcases Nat.lt_or_ge (atL l (ex, ec, esy)) l.length with hat | hat
        · rw [decide_eq_true hat] at hp
          subst hp
          have HPI := Lib.hid (putK_in hat)
          clear hat
          obtain ⟨A7, c7, hv7, hc7, hr7⟩ := own_out HROW.out
          rw [HPI.out] at hc7 hr7
          have HRR := Lib.hid hr7; clear hr7
          go_wp2_with fail
          go_at_call 51; refine ((HCL.out) _ ((HR.out).later (hb1.trans ((HB.out).mono hws)))).mono ?_; rintro e' w8 ⟨rfl, hb8⟩
          first
          | (have HZ : Hid (raddR l (ex, ec, esy) = ([], 331)) := Lib.hid (by rw [HXX.out, if_neg (by rw [HTN.out]; exact Bool.false_ne_true), if_pos HK.out])
             go_wp2_with fail
             go_ret2
             rw [HZ.out]
             exact RdPost.none_ 331 (below_then (hb1.trans ((HB.out).mono hws)) hb8))
          | (by_cases h100 : l.length = 100
             · have HZ : Hid (raddR l (ex, ec, esy) = ([], 5)) := Lib.hid (by rw [HXX.out, if_neg (by rw [HTN.out]; exact Bool.false_ne_true), if_neg (by rw [HK.out]; exact Bool.false_ne_true), if_pos h100])
               have hq : ((l.length : Int) == 100) = true := by rw [beq_iff_eq]; omega
               clear h100
               go_wp2_with fail
               go_ret2
               rw [HZ.out]
               exact RdPost.none_ 5 (below_then (hb1.trans ((HB.out).mono hws)) hb8)
             · have HZ := Lib.hid (show raddR l (ex, ec, esy) = (l.take (atL l (ex, ec, esy)) ++ (ex, ec, esy) :: l.drop (atL l (ex, ec, esy)), 0) by rw [HXX.out, if_neg (by rw [HTN.out]; exact Bool.false_ne_true), if_neg (by rw [HK.out]; exact Bool.false_ne_true), if_neg h100])
               have hq : ((l.length : Int) == 100) = false := by rw [beq_eq_false_iff_ne]; omega
               clear h100
               have HV7 := Lib.hid hv7; clear hv7
               go_wp2_with fail
               go_ret2
               rw [HZ.out]
               simp only [HV7.out]
               exact ⟨A7, c7, (by first | (rw [HPI.out]; done) | (rw [HPI.out]; rfl)), hc7, ((Reads.of_own HRR.out).later hb8), below_then (hb1.trans ((HB.out).mono hws)) hb8⟩)
        · rw [decide_eq_false (by omega)] at hp
          subst hp
          have HPI := Lib.hid (putK_end (l := l) (e := (ex, ec, esy)) (by have := HAT.out; omega))
          clear hat
          go_wp2_with (at_builtin; refine wpList_append_own _ rfl _ _ 42 rfl w3.heap.size 46 i0 (.agg #[.string ⟨#[]⟩, .int .u8 0, .string ⟨#[]⟩]) 3 40 Tryz.underlying42 hi hz0 hz1 hz2 rfl (by decide) _ _ _ rfl ((HROW.out).alloc _) ⟨wr.heap.size, 0, none⟩ 1 1 [str ex, byteV ec, str esy] rfl rfl ?a9 ?b9 ?c9 ?d9 ?e9 ?_)
          try (case a9 => first | exact three_new _ _ rfl _ _ _ _ | exact three_new _ _ (by simp) _ _ _ _ | exact three_new0 _ _ rfl _ _ _ _ | exact three_new0 _ _ (by simp) _ _ _ _)
          case b9 => simp [Value.oneCell']
          case c9 => (unfold maxLen; omega)
          case d9 => omega
          case e9 => (have := (HB.out).size; first | omega | (simp; omega))
          intro v5 w5 hown9 hgrow9 _
          have HG9 := Lib.hid (((HB.out).alloc (by have := (HB.out).size; first | omega | (simp; omega)) (.cells #[str ex, byteV ec, str esy] 46)).grown hgrow9 (by have := (HB.out).size; first | omega | (simp; omega)) (own_ge (HROW.out)))
          have HR9 := Lib.hid (rowE_put (f := (ex, ec, esy)) hown9 (by simp))
          clear hgrow9 hown9
          replace k0 := ((HG9.out).cell (p := ⟨w.heap.size, _, none⟩) (by omega)).trans (((HB.out).cell (p := ⟨w.heap.size, _, none⟩) (by omega)).symm.trans k0)
          replace k1 := ((HG9.out).cell (p := ⟨w.heap.size, _, none⟩) (by omega)).trans (((HB.out).cell (p := ⟨w.heap.size, _, none⟩) (by omega)).symm.trans k1)
          replace k2 := ((HG9.out).cell (p := ⟨w.heap.size, _, none⟩) (by omega)).trans (((HB.out).cell (p := ⟨w.heap.size, _, none⟩) (by omega)).symm.trans k2)
          obtain ⟨A7, c7, hv7, hc7, hr7⟩ := own_out HR9.out
          rw [HPI.out] at hc7 hr7
          have HRR := Lib.hid hr7; clear hr7
          go_wp2_with fail
          go_at_call 51; refine ((HCL.out) _ ((HR.out).later (hb1.trans ((HG9.out).mono hws)))).mono ?_; rintro e' w8 ⟨rfl, hb8⟩
          first
          | (have HZ : Hid (raddR l (ex, ec, esy) = ([], 331)) := Lib.hid (by rw [HXX.out, if_neg (by rw [HTN.out]; exact Bool.false_ne_true), if_pos HK.out])
             go_wp2_with fail
             go_ret2
             rw [HZ.out]
             exact RdPost.none_ 331 (below_then (hb1.trans ((HG9.out).mono hws)) hb8))
          | (by_cases h100 : l.length = 100
             · have HZ : Hid (raddR l (ex, ec, esy) = ([], 5)) := Lib.hid (by rw [HXX.out, if_neg (by rw [HTN.out]; exact Bool.false_ne_true), if_neg (by rw [HK.out]; exact Bool.false_ne_true), if_pos h100])
               have hq : ((l.length : Int) == 100) = true := by rw [beq_iff_eq]; omega
               clear h100
               go_wp2_with fail
               go_ret2
               rw [HZ.out]
               exact RdPost.none_ 5 (below_then (hb1.trans ((HG9.out).mono hws)) hb8)
             · have HZ := Lib.hid (show raddR l (ex, ec, esy) = (l.take (atL l (ex, ec, esy)) ++ (ex, ec, esy) :: l.drop (atL l (ex, ec, esy)), 0) by rw [HXX.out, if_neg (by rw [HTN.out]; exact Bool.false_ne_true), if_neg (by rw [HK.out]; exact Bool.false_ne_true), if_neg h100])
               have hq : ((l.length : Int) == 100) = false := by rw [beq_eq_false_iff_ne]; omega
               clear h100
               have HV7 := Lib.hid hv7; clear hv7
               go_wp2_with fail
               go_ret2
               rw [HZ.out]
               simp only [HV7.out]
               exact ⟨A7, c7, (by first | (rw [HPI.out]; done) | (rw [HPI.out]; rfl)), hc7, ((Reads.of_own HRR.out).later hb8), below_then (hb1.trans ((HG9.out).mono hws)) hb8⟩)
theorem radd_any (l : List Ent) (e : Ent) (A : Option Addr) (c : Nat) (w : World) (hl : l.length ≤ 1048576) (hw : ∀ e ∈ l, e.1.length ≤ 1048576 ∧ e.2.2.length ≤ 1048576) (hx : e.1.length ≤ 1048576 ∧ e.2.2.length ≤ 1048576) (hr : Reads w w.heap.size 3 A l.length (flat l)) :
    Calls Tryz.prog 20 #[.slice A l.length c, entV e] w (RdPost w (addR l e).1 (addR l e).2) := by
  rw [← radd_eq]
  cases hv : validL l
  · exact radd_2 l e A c w hl hw hx hr (by rw [hv]; rfl)
  · cases hrt : rightL e
    · exact radd_2 l e A c w hl hw hx hr (by rw [hv, hrt]; rfl)
    · exact radd_1 l e A c w ((valid_iff l).1 hv).1 hw hx hr hv hrt
def filK (l : List Ent) (tok : List UInt8) (ct : UInt8) (k : Nat) : List Ent := (l.take k).filter fun o => !isE tok ct o
theorem filK_yes {l : List Ent} {tok : List UInt8} {ct : UInt8} {k : Nat} {o : Ent} (hk : k < l.length) (ho : l[k] = o) (h : isE tok ct o = false) : filK l tok ct (k + 1) = filK l tok ct k ++ [o] := by
  unfold filK
  rw [List.take_succ_eq_append_getElem hk, List.filter_append, ho]
  simp [h]
theorem filK_no {l : List Ent} {tok : List UInt8} {ct : UInt8} {k : Nat} {o : Ent} (hk : k < l.length) (ho : l[k] = o) (h : isE tok ct o = true) : filK l tok ct (k + 1) = filK l tok ct k := by
  unfold filK
  rw [List.take_succ_eq_append_getElem hk, List.filter_append, ho]
  simp [h]
theorem filK_len (l : List Ent) (tok : List UInt8) (ct : UInt8) (k : Nat) : (filK l tok ct k).length ≤ k := by
  unfold filK
  refine Nat.le_trans (List.length_filter_le _ _) ?_
  simp; omega
theorem filK_all (l : List Ent) (tok : List UInt8) (ct : UInt8) : filK l tok ct l.length = l.filter fun o => !isE tok ct o := by unfold filK; rw [List.take_length]
theorem u8_bneq (a b : UInt8) : ((a.toNat : Int) != (b.toNat : Int)) = !(a == b) := by rw [bne, u8_eqq]
set_option maxRecDepth 100000 in
set_option maxHeartbeats 3200000 in
theorem rremove_any (l : List Ent) (tok : List UInt8) (ct : UInt8) (A : Option Addr) (c : Nat) (w : World) (hl : l.length ≤ 1048576) (hw : ∀ e ∈ l, e.1.length ≤ 1048576 ∧ e.2.2.length ≤ 1048576) (hr : Reads w w.heap.size 3 A l.length (flat l)) :
    Calls Tryz.prog 21 #[.slice A l.length c, str tok, byteV ct] w (RdPost w (removeR l tok ct).1 (removeR l tok ct).2) := by
  have HR := Lib.hid hr; clear hr
  have HW := Lib.hid hw; clear hw
  cases hv : validL l
  · have HX := Lib.hid (show removeR l tok ct = ([], 2) by unfold removeR; rw [hv]; rfl)
    have HV := Lib.hid hv; clear hv
    rw [HX.out]
    go_enter Tryz.func21, Tryz.ntmps21
    go_wp2_with (go_at_call 23; refine (rvalid_any l A c _ hl HW.out HR.out).mono ?_; rintro e w1 ⟨rfl, hb1⟩; rw [HV.out])
    go_ret2
    exact RdPost.none_ 2 hb1
  · have HX := Lib.hid (rremove_eq hv tok ct)
    rw [← filK_all] at HX
    have hl1 := ((valid_iff l).1 hv).1
    have HV := Lib.hid hv; clear hv
    obtain ⟨i0, hi, hz0, hz1, hz2⟩ := info_parts infoEntR
    go_enter Tryz.func21, Tryz.ntmps21
    go_wp2_with (go_at_call 23; refine (rvalid_any l A c _ hl HW.out HR.out).mono ?_; rintro e w1 ⟨rfl, hb1⟩; rw [HV.out])
    go_loopw [8, 9] (fun v i wr => ∃ k : Nat, k ≤ l.length ∧ i = .int .i64 k ∧ wr.ownsRow w.heap.size 46 3 v (filK l tok ct k).length (flat (filK l tok ct k)) ∧ Below w.heap.size w wr) (fun _ i _ => l.length - (intOf i).toNat)
    case atStart => exact ⟨0, Nat.zero_le _, rfl, World.ownsRow_nil _ _ _ _, hb1⟩
    case round =>
      obtain ⟨k, hk, rfl, hrow, hb⟩ := hrel
      have hpl := filK_len l tok ct k
      have hbs := hb.size
      by_cases hlt : k < l.length
      · obtain ⟨b, off, rfl, hB, h0, h1, h2⟩ := ((HR.out).below hb).ent hlt
        have HY := Lib.hid (fun h => filK_yes (tok := tok) (ct := ct) hlt rfl h)
        have HN := Lib.hid (fun h => filK_no (tok := tok) (ct := ct) hlt rfl h)
        generalize l[k] = oo at h0 h1 h2 HY HN
        obtain ⟨ox, oc, osy⟩ := oo
        have hu := u8_bneq oc ct
        have HROW := Lib.hid hrow; clear hrow
        have HB := Lib.hid hb
        cases hx : (ox == tok)
        · have HF := Lib.hid (HY.out (show isE tok ct (ox, oc, osy) = false by unfold isE; simp only [hx]; rfl))
          skip
          go_wp2_with (at_builtin; refine wpList_append_own _ rfl _ _ 42 rfl w.heap.size 46 i0 (.agg #[.string ⟨#[]⟩, .int .u8 0, .string ⟨#[]⟩]) 3 40 Tryz.underlying42 hi hz0 hz1 hz2 rfl (by decide) _ _ _ rfl ((HROW.out).alloc _) ⟨wr.heap.size, 0, none⟩ 1 1 [str ox, byteV oc, str osy] rfl rfl ?ax1 ?bx1 ?cx1 ?dx1 ?ex1 ?_)
          try (case ax1 => first | exact three_new _ _ rfl _ _ _ _ | exact three_new _ _ (by simp) _ _ _ _)
          case bx1 => simp [Value.oneCell']
          case cx1 => (unfold maxLen; omega)
          case dx1 => omega
          case ex1 => (have := (HB.out).size; first | omega | (simp; omega))
          intro v5 w5 hownx1 hgrowx1 _
          have HGx1 := Lib.hid (((HB.out).alloc (by have := (HB.out).size; first | omega | (simp; omega)) (.cells #[str ox, byteV oc, str osy] 46)).grown hgrowx1 (by have := (HB.out).size; first | omega | (simp; omega)) (own_ge (HROW.out)))
          have HRx1 := Lib.hid (rowE_put (f := (ox, oc, osy)) hownx1 (by simp))
          clear hgrowx1 hownx1
          go_wp2_with fail
          go_roundw
          case rel => exact ⟨k + 1, by omega, by go_num, by rw [HF.out]; exact HRx1.out, HGx1.out⟩
          case measure => simp [intOf]; omega
        · cases hc : (oc == ct)
          · have HF := Lib.hid (HY.out (show isE tok ct (ox, oc, osy) = false by unfold isE; simp only [hx, hc]; rfl))
            rw [hc] at hu
            go_wp2_with (at_builtin; refine wpList_append_own _ rfl _ _ 42 rfl w.heap.size 46 i0 (.agg #[.string ⟨#[]⟩, .int .u8 0, .string ⟨#[]⟩]) 3 40 Tryz.underlying42 hi hz0 hz1 hz2 rfl (by decide) _ _ _ rfl ((HROW.out).alloc _) ⟨wr.heap.size, 0, none⟩ 1 1 [str ox, byteV oc, str osy] rfl rfl ?ax2 ?bx2 ?cx2 ?dx2 ?ex2 ?_)
            try (case ax2 => first | exact three_new _ _ rfl _ _ _ _ | exact three_new _ _ (by simp) _ _ _ _)
            case bx2 => simp [Value.oneCell']
            case cx2 => (unfold maxLen; omega)
            case dx2 => omega
            case ex2 => (have := (HB.out).size; first | omega | (simp; omega))
            intro v5 w5 hownx2 hgrowx2 _
            have HGx2 := Lib.hid (((HB.out).alloc (by have := (HB.out).size; first | omega | (simp; omega)) (.cells #[str ox, byteV oc, str osy] 46)).grown hgrowx2 (by have := (HB.out).size; first | omega | (simp; omega)) (own_ge (HROW.out)))
            have HRx2 := Lib.hid (rowE_put (f := (ox, oc, osy)) hownx2 (by simp))
            clear hgrowx2 hownx2
            go_wp2_with fail
            go_roundw
            case rel => exact ⟨k + 1, by omega, by go_num, by rw [HF.out]; exact HRx2.out, HGx2.out⟩
            case measure => simp [intOf]; omega
          · have HF := Lib.hid (HN.out (show isE tok ct (ox, oc, osy) = true by unfold isE; simp only [hx, hc]; rfl))
            rw [hc] at hu
            go_wp2_with fail
            go_roundw
            case rel => exact ⟨k + 1, by omega, by go_num, by rw [HF.out]; exact HROW.out, HB.out⟩
            case measure => simp [intOf]; omega
      · obtain rfl : k = l.length := by omega
        have HB := Lib.hid hb
        generalize filK l tok ct l.length = F at *
        obtain ⟨A7, c7, hv7, hc7, hr7⟩ := own_out hrow
        subst hv7
        have HRR := Lib.hid hr7; clear hr7 hrow
        by_cases hF : F.length = l.length
        · have HZ : Hid (removeR l tok ct = ([], 6)) := Lib.hid (by rw [HX.out, if_pos hF])
          have hq : ((F.length : Int) == (l.length : Int)) = true := by rw [hF]; simp
          clear hF
          go_wp2_with fail
          go_ret2
          rw [HZ.out]
          exact RdPost.none_ 6 HB.out
        · have HZ : Hid (removeR l tok ct = (F, 0)) := Lib.hid (by rw [HX.out, if_neg hF])
          have hq : ((F.length : Int) == (l.length : Int)) = false := by rw [beq_eq_false_iff_ne]; omega
          clear hF
          go_wp2_with fail
          go_ret2
          rw [HZ.out]
          exact ⟨A7, c7, rfl, hc7, Reads.of_own HRR.out, HB.out⟩
theorem infoFormR : (Tryz.prog.info? 54).map (fun i => (i.zero, i.size, i.bytes)) = some (some (.agg #[.int .i64 0, .bool false]), 2, 16) := by kernel_rfl
theorem rlook_verb {x sy : List UInt8} {ct : UInt8} (h : rightL (x, ct, sy) = true) (h4 : (4 : Int) ≤ (ct.toNat : Int)) : (ct == 4 || ct == 5) = true ∧ plainL x = true := by
  unfold rightL at h
  have h3 : ct ≠ 3 := fun e => by subst e; simp at h4
  rw [if_neg h3] at h
  simp only [Bool.and_eq_true, decide_eq_true_eq, UInt8.le_iff_toNat_le] at h
  have h5 : ct.toNat ≤ 5 := by simpa using h.2.1
  refine ⟨?_, h.2.2.1⟩
  have : ct.toNat = 4 ∨ ct.toNat = 5 := by omega
  rcases this with e | e
  · rw [show ct = 4 from UInt8.toNat_inj.1 e]; rfl
  · rw [show ct = 5 from UInt8.toNat_inj.1 e]; rfl
theorem rlook_not {ct : UInt8} (h4 : ¬ (4 : Int) ≤ (ct.toNat : Int)) : (ct == 4 || ct == 5) = false := by
  cases h : (ct == 4 || ct == 5)
  · rfl
  · rw [Bool.or_eq_true, beq_iff_eq, beq_iff_eq] at h
    rcases h with rfl | rfl <;> simp at h4
theorem rl_word {tok x sy : List UInt8} {ct : UInt8} {k : Nat} (h : (x == tok) = true) : (if hitE tok (x, ct, sy) then [(k, !(tok == x))] else []) = [(k, false)] := hit_word (by rw [Bool.beq_comm]; exact h)
theorem rl_none {tok x sy : List UInt8} {ct : UInt8} {k : Nat} (h : (x == tok) = false) (h4 : (ct == 4 || ct == 5) = false) : (if hitE tok (x, ct, sy) then [(k, !(tok == x))] else []) = [] := by
  rw [hit_else h4, Bool.beq_comm (a := tok), h]; rfl
theorem rl_third {tok x sy : List UInt8} {ct : UInt8} {k : Nat} (h : (x == tok) = false) (h4 : (ct == 4 || ct == 5) = true) (hp : plainL x = true) (h2 : (thirdL x == tok) = true) : (if hitE tok (x, ct, sy) then [(k, !(tok == x))] else []) = [(k, true)] := by
  rw [hit_verb h4 hp, Bool.beq_comm (a := tok), h, Bool.beq_comm (a := tok), h2]; rfl
theorem rl_other {tok x sy : List UInt8} {ct : UInt8} {k : Nat} (h : (x == tok) = false) (h4 : (ct == 4 || ct == 5) = true) (hp : plainL x = true) (h2 : (thirdL x == tok) = false) : (if hitE tok (x, ct, sy) then [(k, !(tok == x))] else []) = [] := by
  rw [hit_verb h4 hp, Bool.beq_comm (a := tok), h, Bool.beq_comm (a := tok), h2]; rfl
set_option maxRecDepth 100000 in
set_option maxHeartbeats 3200000 in
theorem rlook_any (l : List Ent) (tok : List UInt8) (A : Option Addr) (c : Nat) (w : World) (hl : l.length ≤ 1048576) (hw : ∀ e ∈ l, e.1.length ≤ 1048576 ∧ e.2.2.length ≤ 1048576) (hr : Reads w w.heap.size 3 A l.length (flat l)) :
    Calls Tryz.prog 22 #[.slice A l.length c, str tok] w (LookPost w (lookR l tok).1 (lookR l tok).2) := by
  have HR := Lib.hid hr; clear hr
  have HW := Lib.hid hw; clear hw
  cases hv : validL l
  · have HX : Hid (lookR l tok = ([], 2)) := Lib.hid (show lookR l tok = _ by unfold lookR; rw [hv]; rfl)
    have HV := Lib.hid hv; clear hv
    rw [HX.out]
    go_enter Tryz.func22, Tryz.ntmps22
    go_wp2_with (go_at_call 23; refine (rvalid_any l A c _ hl HW.out HR.out).mono ?_; rintro e w1 ⟨rfl, hb1⟩; rw [HV.out])
    go_ret2
    exact ⟨none, 0, rfl, Nat.le_refl _, Reads.none_, hb1⟩
  · have HX : Hid (lookR l tok = (formsK l tok l.length, 0)) := Lib.hid (show lookR l tok = _ by unfold lookR; rw [hv]; rfl)
    have hl1 := ((valid_iff l).1 hv).1
    have HV := Lib.hid hv
    have HRT := Lib.hid (fun k hk => valid_right hv (k := k) hk)
    clear hv
    obtain ⟨i0, hi, hz0, hz1, hz2⟩ := info_parts infoFormR
    go_enter Tryz.func22, Tryz.ntmps22
    go_wp2_with (go_at_call 23; refine (rvalid_any l A c _ hl HW.out HR.out).mono ?_; rintro e w1 ⟨rfl, hb1⟩; rw [HV.out])
    go_loopw [6, 7] (fun v i wr => ∃ k : Nat, k ≤ l.length ∧ i = .int .i64 k ∧ wr.ownsRow w.heap.size 54 2 v (formsK l tok k).length (flatF (formsK l tok k)) ∧ Below w.heap.size w wr) (fun _ i _ => l.length - (intOf i).toNat)
    case atStart => exact ⟨0, Nat.zero_le _, rfl, World.ownsRow_nil _ _ _ _, hb1⟩
    case round =>
      obtain ⟨k, hk, rfl, hrow, hb⟩ := hrel
      have hpl := formsK_len l tok k
      have hbs := hb.size
      by_cases hlt : k < l.length
      · obtain ⟨b, off, rfl, hB, h0, h1, h2⟩ := ((HR.out).below hb).ent hlt
        have hrt := HRT.out k hlt
        have HF := Lib.hid (formsK_succ l tok k hlt)
        generalize l[k] = oo at h0 h1 h2 hrt HF
        obtain ⟨x, ct, sy⟩ := oo
        have HRO := Lib.hid hrt; clear hrt
        have HROW := Lib.hid hrow; clear hrow
        have HB := Lib.hid hb
        cases m1 : (x == tok)
        · by_cases h4 : (4 : Int) ≤ (ct.toNat : Int)
          · obtain ⟨hvb, hpp⟩ := rlook_verb HRO.out h4
            obtain ⟨hx1, hx0⟩ := plain_len hpp
            have HVB := Lib.hid hvb; have HPP := Lib.hid hpp; clear hvb hpp
            cases m2 : (thirdL x == tok)
            · have HS := Lib.hid (rl_other (k := k) (sy := sy) m1 HVB.out HPP.out m2)
              go_wp2_with (go_at_call 52; refine (rthirdOf_any x _ hx0 hx1).mono ?_; rintro e w2 ⟨rfl, rfl⟩)
              go_roundw
              case rel => exact ⟨k + 1, by omega, by go_num, row_cast0 HROW.out (by rw [HF.out, HS.out]), HB.out⟩
              case measure => simp [intOf]; omega
            · have HS := Lib.hid (rl_third (k := k) (sy := sy) m1 HVB.out HPP.out m2)
              go_wp2_with (first | (go_at_call 52; refine (rthirdOf_any x _ hx0 hx1).mono ?_; rintro e w2 ⟨rfl, rfl⟩) | (at_builtin; refine wpList_append_own _ rfl _ _ 48 rfl w.heap.size 54 i0 (.agg #[.int .i64 0, .bool false]) 2 16 Tryz.underlying48 hi hz0 hz1 hz2 rfl (by decide) _ _ _ rfl ((HROW.out).alloc _) ⟨wr.heap.size, 0, none⟩ 1 1 [num k, .bool true] rfl rfl ?ay1 ?by1 ?cy1 ?dy1 ?ey1 ?_))
              try (case ay1 => first | exact two_new _ _ rfl _ _ _ | exact two_new _ _ (by simp) _ _ _)
              case by1 => simp [Value.oneCell']
              case cy1 => (unfold maxLen; omega)
              case dy1 => omega
              case ey1 => (have := (HB.out).size; first | omega | (simp; omega))
              intro v5 w5 howny1 hgrowy1 _
              have HGy1 := Lib.hid (((HB.out).alloc (by have := (HB.out).size; first | omega | (simp; omega)) (.cells #[num k, .bool true] 54)).grown hgrowy1 (by have := (HB.out).size; first | omega | (simp; omega)) (own_ge (HROW.out)))
              skip
              clear hgrowy1
              go_wp2_with fail
              go_roundw
              case rel => exact ⟨k + 1, by omega, by go_num, row_cast howny1 (by rw [HF.out, HS.out]), HGy1.out⟩
              case measure => simp [intOf]; omega
          · have HVB := Lib.hid (rlook_not h4)
            have HS := Lib.hid (rl_none (k := k) (sy := sy) m1 HVB.out)
            go_wp2_with fail
            go_roundw
            case rel => exact ⟨k + 1, by omega, by go_num, row_cast0 HROW.out (by rw [HF.out, HS.out]), HB.out⟩
            case measure => simp [intOf]; omega
        · have HS := Lib.hid (rl_word (k := k) (sy := sy) (ct := ct) m1)
          go_wp2_with (at_builtin; refine wpList_append_own _ rfl _ _ 48 rfl w.heap.size 54 i0 (.agg #[.int .i64 0, .bool false]) 2 16 Tryz.underlying48 hi hz0 hz1 hz2 rfl (by decide) _ _ _ rfl ((HROW.out).alloc _) ⟨wr.heap.size, 0, none⟩ 1 1 [num k, .bool false] rfl rfl ?ay2 ?by2 ?cy2 ?dy2 ?ey2 ?_)
          try (case ay2 => first | exact two_new _ _ rfl _ _ _ | exact two_new _ _ (by simp) _ _ _)
          case by2 => simp [Value.oneCell']
          case cy2 => (unfold maxLen; omega)
          case dy2 => omega
          case ey2 => (have := (HB.out).size; first | omega | (simp; omega))
          intro v5 w5 howny2 hgrowy2 _
          have HGy2 := Lib.hid (((HB.out).alloc (by have := (HB.out).size; first | omega | (simp; omega)) (.cells #[num k, .bool false] 54)).grown hgrowy2 (by have := (HB.out).size; first | omega | (simp; omega)) (own_ge (HROW.out)))
          skip
          clear hgrowy2
          go_wp2_with fail
          go_roundw
          case rel => exact ⟨k + 1, by omega, by go_num, row_cast howny2 (by rw [HF.out, HS.out]), HGy2.out⟩
          case measure => simp [intOf]; omega
      · obtain rfl : k = l.length := by omega
        have HB := Lib.hid hb
        generalize formsK l tok l.length = F at *
        obtain ⟨A7, c7, hv7, hc7⟩ := own_form hrow
        subst hv7
        have HRR := Lib.hid hrow; clear hrow
        go_wp2_with fail
        go_ret2
        rw [HX.out]
        exact ⟨A7, c7, rfl, hc7, Reads.of_own HRR.out, HB.out⟩
end Go.Proofs.YtbbgieopcmjoeaaGreatDoor
