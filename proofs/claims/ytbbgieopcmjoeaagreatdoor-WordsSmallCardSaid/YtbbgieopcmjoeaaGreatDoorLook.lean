/- package words: Look. -/
import Derived.Test.YtbbgieopcmjoeaaGreatDoorText
namespace Go.Proofs.YtbbgieopcmjoeaaGreatDoor
open Go.RowKit
/-- The form of an entry that a token is, if it is one: the word itself, or its third form. -/
def thirdOf (e : Ent) : List UInt8 := if e.2.1 == 4 || e.2.1 == 5 then (thirdR e.1).1 else []
def hitE (tok : List UInt8) (e : Ent) : Bool := tok == e.1 || (tok == thirdOf e && !(thirdOf e == []))
def formsFrom (tok : List UInt8) : Nat → List Ent → List (Nat × Bool)
  | _, [] => []
  | i, e :: r => (if hitE tok e then [(i, !(tok == e.1))] else []) ++ formsFrom tok (i + 1) r
def formsK (l : List Ent) (tok : List UInt8) (k : Nat) : List (Nat × Bool) := formsFrom tok 0 (l.take k)
theorem formsFrom_snoc (tok : List UInt8) (e : Ent) : ∀ (l : List Ent) (i : Nat), formsFrom tok i (l ++ [e]) = formsFrom tok i l ++ (if hitE tok e then [(i + l.length, !(tok == e.1))] else [])
  | [], i => by simp [formsFrom]
  | x :: l, i => by simp [formsFrom, formsFrom_snoc tok e l (i + 1), Nat.add_assoc, Nat.add_comm 1]
theorem formsK_succ (l : List Ent) (tok : List UInt8) (k : Nat) (hk : k < l.length) : formsK l tok (k + 1) = formsK l tok k ++ (if hitE tok l[k] then [(k, !(tok == l[k].1))] else []) := by
  unfold formsK
  rw [List.take_succ_eq_append_getElem hk, formsFrom_snoc]
  simp [Nat.min_eq_left (Nat.le_of_lt hk)]
theorem formsFrom_len (tok : List UInt8) : ∀ (l : List Ent) (i : Nat), (formsFrom tok i l).length ≤ l.length
  | [], i => by simp [formsFrom]
  | x :: l, i => by have := formsFrom_len tok l (i + 1); simp only [formsFrom, List.length_append, List.length_cons]; split <;> simp <;> omega
theorem formsK_len (l : List Ent) (tok : List UInt8) (k : Nat) : (formsK l tok k).length ≤ k := by
  have := formsFrom_len tok (l.take k) 0; unfold formsK; simp at this; omega
abbrev formCells (f : Nat × Bool) : List Value := [num f.1, .bool f.2]
def flatF (l : List (Nat × Bool)) : List Value := l.flatMap formCells
theorem flatF_snoc (l : List (Nat × Bool)) (f : Nat × Bool) : flatF (l ++ [f]) = flatF l ++ formCells f := by simp [flatF]
def lookR (l : List Ent) (tok : List UInt8) : List (Nat × Bool) × Int := if validL l then (formsK l tok l.length, 0) else ([], 2)
def LookPost (w : World) (fs : List (Nat × Bool)) (er : Int) (e : Ending) (w' : World) : Prop := ∃ A c, e = .returned (.tuple #[.slice A fs.length c, .int .i64 er]) ∧ fs.length ≤ c ∧ Reads w' w'.heap.size 2 A fs.length (flatF fs) ∧ Below w.heap.size w w'
theorem infoForm : (Tryz.prog.info? 40).map (fun i => (i.zero, i.size, i.bytes)) = some (some (.agg #[.int .i64 0, .bool false]), 2, 16) := by kernel_rfl
theorem u8_beq4 (b : UInt8) : ((b.toNat : Int) == 4) = (b == 4) := u8_beqN b 4 (by omega)
theorem two_new (W : World) (n : Nat) (hn : W.heap.size = n) (x y : Value) (t : TypeId) : ∀ j u, [x, y][j]? = some u → (W.alloc (.cells #[x, y] t)).cell? ((⟨n, 0, none⟩ : Addr).add j) = some u := by
  subst hn
  intro j u hj
  rw [addr_add, Nat.zero_add, World.cell?_alloc_mark]
  simpa using hj
/-- A row of the call's own stays, while blocks are made beside it. -/
theorem row_below {B0 : Nat} {W W' : World} {e size k : Nat} {v : Value} {xs : List Value} (h : W.ownsRow B0 e size v k xs) (hb : Below W.heap.size W W') : W'.ownsRow B0 e size v k xs := row_later h hb
theorem hit_word {tok x : List UInt8} {k : Nat} {ct : UInt8} {sy : List UInt8} (h : (tok == x) = true) : (if hitE tok (x, ct, sy) then [(k, !(tok == x))] else []) = [(k, false)] := by
  have : hitE tok (x, ct, sy) = true := by unfold hitE; simp only [h]; rfl
  rw [this, h]; rfl
theorem hit_third {tok x th : List UInt8} {k : Nat} {ct : UInt8} {sy : List UInt8} (ht : thirdOf (x, ct, sy) = th) (h : (tok == x) = false) (h2 : (tok == th) = true) (h3 : (th == []) = false) : (if hitE tok (x, ct, sy) then [(k, !(tok == x))] else []) = [(k, true)] := by
  have : hitE tok (x, ct, sy) = true := by unfold hitE; rw [ht]; simp only [h, h2, h3]; rfl
  rw [this, h]; rfl
theorem hit_no {tok x th : List UInt8} {k : Nat} {ct : UInt8} {sy : List UInt8} (ht : thirdOf (x, ct, sy) = th) (h : (tok == x) = false) (h2 : (tok == th) = false ∨ (th == []) = true) : (if hitE tok (x, ct, sy) then [(k, !(tok == x))] else []) = [] := by
  have : hitE tok (x, ct, sy) = false := by
    unfold hitE; rw [ht]; simp only [h]
    rcases h2 with h2 | h2 <;> simp [h2]
  rw [this]; rfl
theorem row_cast {W : World} {B e : Nat} {v : Value} {fs gs : List (Nat × Bool)} {f : Nat × Bool} (h : W.ownsRow B e 2 v (fs.length + 1) (flatF fs ++ formCells f)) (hg : gs = fs ++ [f]) : W.ownsRow B e 2 v gs.length (flatF gs) := by
  rw [hg, flatF_snoc]; simpa using h
theorem row_cast0 {W : World} {B e : Nat} {v : Value} {fs gs : List (Nat × Bool)} (h : W.ownsRow B e 2 v fs.length (flatF fs)) (hg : gs = fs ++ []) : W.ownsRow B e 2 v gs.length (flatF gs) := by
  rw [hg, List.append_nil]; exact h
theorem own_ge {W : World} {base e size n : Nat} {v : Value} {xs : List Value} (h : W.ownsRow base e size v n xs) : ∀ k, v.ownBlock = some k → base ≤ k := by
  intro k hk
  rcases h.2 with ⟨rfl, _⟩ | ⟨g, cap, cur, rfl, hg, _⟩
  · simp [Value.ownBlock] at hk
  · have : g = k := by simpa [Value.ownBlock] using hk
    omega
set_option maxRecDepth 100000 in
set_option maxHeartbeats 3200000 in
theorem look_any (l : List Ent) (tok : List UInt8) (A : Option Addr) (c : Nat) (w : World) (hw : ∀ e ∈ l, e.1.length ≤ 1048576) (hm : l.length ≤ c) (hr : Reads w w.heap.size 3 A l.length (flat l)) :
    Calls Tryz.prog 15 #[.slice A l.length c, str tok] w (LookPost w (lookR l tok).1 (lookR l tok).2) := by
  have HV := Lib.hid (valid_any l A c w (fun e h => by have := hw e h; omega) hm hr)
  cases hv : validL l
  · have HVV := Lib.hid hv
    have HX : Hid (lookR l tok = ([], 2)) := by unfold lookR; rw [hv]; rfl
    rw [HX.out]
    clear hv hr hw
    go_enter Tryz.func15, Tryz.ntmps15
    go_wp2_with (go_at_call 17; refine (HV.out).mono ?_; rintro e w1 ⟨rfl, hb1⟩; rw [HVV.out])
    go_ret2
    exact ⟨none, 0, rfl, Nat.le_refl _, Reads.none_, hb1⟩
  · have HVV := Lib.hid hv
    have hl : l.length ≤ 100 := by
      unfold validL at hv; rw [Bool.and_eq_true] at hv; simpa using hv.1
    have HX : Hid (lookR l tok = (formsK l tok l.length, 0)) := by unfold lookR; rw [hv]; rfl
    rw [HX.out]
    have HR := Lib.hid hr
    have HW := Lib.hid hw
    clear hv hr hw
    obtain ⟨i0, hi, hz0, hz1, hz2⟩ := info_parts infoForm
    go_enter Tryz.func15, Tryz.ntmps15
    go_wp2_with (go_at_call 17; refine (HV.out).mono ?_; rintro e w1 ⟨rfl, hb1⟩; rw [HVV.out])
    go_loopw [6, 15] (fun v i wr => ∃ k : Nat, k ≤ l.length ∧ i = .int .i64 k ∧ wr.ownsRow w.heap.size 40 2 v (formsK l tok k).length (flatF (formsK l tok k)) ∧ Below w.heap.size w wr) (fun _ i _ => l.length - (intOf i).toNat)
    case atStart => exact ⟨0, Nat.zero_le _, rfl, World.ownsRow_nil _ _ _ _, hb1⟩
    case round =>
      obtain ⟨k, hk, rfl, hrow, hb⟩ := hrel
      have hfl := formsK_len l tok k
      by_cases hlt : k < l.length
      · obtain ⟨b, off, rfl, hB, h0, h1, h2⟩ := ((HR.out).below hb).ent hlt
        have hxl : (l[k]).1.length ≤ 1048576 := (HW.out) _ (List.getElem_mem hlt)
        have HF := Lib.hid (formsK_succ l tok k hlt)
        generalize l[k] = e at h0 h1 h2 hxl HF
        obtain ⟨x, ct, sy⟩ := e
        have e4 := u8_beq4 ct
        have e5 := u8_beq5 ct
        have hbox : Below wr.heap.size wr (wr.alloc (.cells #[str x, byteV ct, str sy] 24)) := (Below.refl _ _).alloc (Nat.le_refl _) _
        have HROW := Lib.hid hrow; clear hrow
        have hbs := hb.size
        cases h4 : (ct == 4)
        · cases h5 : (ct == 5)
          · have H4 := Lib.hid h4; have H5 := Lib.hid h5
            have HT : Hid (thirdOf (x, ct, sy) = []) := by unfold thirdOf; simp only [H4.out, H5.out]; rfl
            cases m1 : (tok == x)
            · have M1 := Lib.hid m1
              cases m2 : (tok == [])
              · have M2 := Lib.hid m2
                go_wp2_with fail
                go_roundw
                case rel => exact ⟨k + 1, by omega, by go_num, row_cast0 (row_later (HROW.out) (hbox)) (by rw [(HF).out, hit_no HT.out M1.out (.inl M2.out)]), hb.trans (Below.mono (hbox) hbs)⟩
                case measure => simp [intOf]; omega
              · have M2 := Lib.hid m2
                go_wp2_with fail
                go_roundw
                case rel => exact ⟨k + 1, by omega, by go_num, row_cast0 (row_later (HROW.out) (hbox)) (by rw [(HF).out, hit_no HT.out M1.out (.inr rfl)]), hb.trans (Below.mono (hbox) hbs)⟩
                case measure => simp [intOf]; omega
            · have M1 := Lib.hid m1
              go_wp2_with (first | (at_builtin; refine wpList_append_own _ rfl _ _ 35 rfl w.heap.size 40 i0 (.agg #[.int .i64 0, .bool false]) 2 16 Tryz.underlying35 hi hz0 hz1 hz2 rfl (by decide) _ _ _ rfl ((row_later (HROW.out) (hbox)).alloc _) ⟨(wr.heap.size + 1), 0, none⟩ 1 1 [num k, .bool false] rfl rfl ?a5 ?b5 ?c5 ?d5 ?e5 ?_))
              try (case a5 => exact two_new _ _ (by simp) _ _ _)
              case b5 => simp [Value.oneCell']
              case c5 => (unfold maxLen; omega)
              case d5 => omega
              case e5 => (first | omega | (simp; omega))
              intro v' w4 hown' hgrow _
              have HG := Lib.hid ((hb.trans (Below.mono (hbox) hbs)).alloc (by first | omega | (simp; omega)) (.cells #[num k, .bool false] 40) |>.grown hgrow (by first | omega | (simp; omega)) (own_ge (HROW.out)))
              clear hgrow
              go_wp2_with fail
              go_roundw
              case rel => exact ⟨k + 1, by omega, by go_num, row_cast hown' (by rw [(HF).out, hit_word M1.out]), HG.out⟩
              case measure => simp [intOf]; omega
          · have H4 := Lib.hid h4; have H5 := Lib.hid h5
            have HT : Hid (thirdOf (x, ct, sy) = (thirdR x).1) := by unfold thirdOf; simp only [H4.out, H5.out]; rfl
            cases m1 : (tok == x)
            · have M1 := Lib.hid m1
              generalize hth : (thirdR x).1 = th at HT
              have HTH := Lib.hid hth; clear hth
              cases m2 : (tok == th)
              · have M2 := Lib.hid m2
                go_wp2_with (go_at_call 26; refine (third_any x _ (by omega)).mono ?_; rintro e w2 ⟨rfl, hb2⟩; rw [HTH.out]; obtain ⟨kc, kf⟩ := bcell hb2; have KB := Lib.hid (below_then hbox hb2); have kz : wr.heap.size < w2.heap.size := by have := hb2.size; simp at this; omega)
                go_roundw
                case rel => exact ⟨k + 1, by omega, by go_num, row_cast0 (row_later (HROW.out) (KB.out)) (by rw [(HF).out, hit_no HT.out M1.out (.inl M2.out)]), hb.trans (Below.mono (KB.out) hbs)⟩
                case measure => simp [intOf]; omega
              · have M2 := Lib.hid m2
                cases m3 : (th == [])
                · have M3 := Lib.hid m3
                  go_wp2_with (first | (at_builtin; refine wpList_append_own _ rfl _ _ 35 rfl w.heap.size 40 i0 (.agg #[.int .i64 0, .bool false]) 2 16 Tryz.underlying35 hi hz0 hz1 hz2 rfl (by decide) _ _ _ rfl ((row_later (HROW.out) (KB.out)).alloc _) ⟨w2.heap.size, 0, none⟩ 1 1 [num k, .bool true] rfl rfl ?a3 ?b3 ?c3 ?d3 ?e3 ?_) | (go_at_call 26; refine (third_any x _ (by omega)).mono ?_; rintro e w2 ⟨rfl, hb2⟩; rw [HTH.out]; obtain ⟨kc, kf⟩ := bcell hb2; have KB := Lib.hid (below_then hbox hb2); have kz : wr.heap.size < w2.heap.size := by have := hb2.size; simp at this; omega))
                  try (case a3 => exact two_new _ _ (by simp) _ _ _)
                  case b3 => simp [Value.oneCell']
                  case c3 => (unfold maxLen; omega)
                  case d3 => omega
                  case e3 => (have := (KB.out).size; first | omega | (simp; omega))
                  intro v' w4 hown' hgrow _
                  have HG := Lib.hid ((hb.trans (Below.mono (KB.out) hbs)).alloc (by have := (KB.out).size; omega) (.cells #[num k, .bool true] 40) |>.grown hgrow (by have := (KB.out).size; first | omega | (simp; omega)) (own_ge (HROW.out)))
                  clear hgrow
                  go_wp2_with fail
                  go_roundw
                  case rel => exact ⟨k + 1, by omega, by go_num, row_cast hown' (by rw [(HF).out, hit_third HT.out M1.out M2.out M3.out]), HG.out⟩
                  case measure => simp [intOf]; omega
                · have M3 := Lib.hid m3
                  go_wp2_with (go_at_call 26; refine (third_any x _ (by omega)).mono ?_; rintro e w2 ⟨rfl, hb2⟩; rw [HTH.out]; obtain ⟨kc, kf⟩ := bcell hb2; have KB := Lib.hid (below_then hbox hb2); have kz : wr.heap.size < w2.heap.size := by have := hb2.size; simp at this; omega)
                  go_roundw
                  case rel => exact ⟨k + 1, by omega, by go_num, row_cast0 (row_later (HROW.out) (KB.out)) (by rw [(HF).out, hit_no HT.out M1.out (.inr M3.out)]), hb.trans (Below.mono (KB.out) hbs)⟩
                  case measure => simp [intOf]; omega
            · have M1 := Lib.hid m1
              go_wp2_with (first | (at_builtin; refine wpList_append_own _ rfl _ _ 35 rfl w.heap.size 40 i0 (.agg #[.int .i64 0, .bool false]) 2 16 Tryz.underlying35 hi hz0 hz1 hz2 rfl (by decide) _ _ _ rfl ((row_later (HROW.out) (KB.out)).alloc _) ⟨w2.heap.size, 0, none⟩ 1 1 [num k, .bool false] rfl rfl ?a4 ?b4 ?c4 ?d4 ?e4 ?_) | (go_at_call 26; refine (third_any x _ (by omega)).mono ?_; rintro e w2 ⟨rfl, hb2⟩; obtain ⟨kc, kf⟩ := bcell hb2; have KB := Lib.hid (below_then hbox hb2); have kz : wr.heap.size < w2.heap.size := by have := hb2.size; simp at this; omega))
              try (case a4 => exact two_new _ _ (by simp) _ _ _)
              case b4 => simp [Value.oneCell']
              case c4 => (unfold maxLen; omega)
              case d4 => omega
              case e4 => (have := (KB.out).size; first | omega | (simp; omega))
              intro v' w4 hown' hgrow _
              have HG := Lib.hid ((hb.trans (Below.mono (KB.out) hbs)).alloc (by have := (KB.out).size; omega) (.cells #[num k, .bool false] 40) |>.grown hgrow (by have := (KB.out).size; first | omega | (simp; omega)) (own_ge (HROW.out)))
              clear hgrow
              go_wp2_with fail
              go_roundw
              case rel => exact ⟨k + 1, by omega, by go_num, row_cast hown' (by rw [(HF).out, hit_word M1.out]), HG.out⟩
              case measure => simp [intOf]; omega
        · have H4 := Lib.hid h4
          have HT : Hid (thirdOf (x, ct, sy) = (thirdR x).1) := by unfold thirdOf; simp only [H4.out]; rfl
          cases m1 : (tok == x)
          · have M1 := Lib.hid m1
            generalize hth : (thirdR x).1 = th at HT
            have HTH := Lib.hid hth; clear hth
            cases m2 : (tok == th)
            · have M2 := Lib.hid m2
              go_wp2_with (go_at_call 26; refine (third_any x _ (by omega)).mono ?_; rintro e w2 ⟨rfl, hb2⟩; rw [HTH.out]; obtain ⟨kc, kf⟩ := bcell hb2; have KB := Lib.hid (below_then hbox hb2); have kz : wr.heap.size < w2.heap.size := by have := hb2.size; simp at this; omega)
              go_roundw
              case rel => exact ⟨k + 1, by omega, by go_num, row_cast0 (row_later (HROW.out) (KB.out)) (by rw [(HF).out, hit_no HT.out M1.out (.inl M2.out)]), hb.trans (Below.mono (KB.out) hbs)⟩
              case measure => simp [intOf]; omega
            · have M2 := Lib.hid m2
              cases m3 : (th == [])
              · have M3 := Lib.hid m3
                go_wp2_with (first | (at_builtin; refine wpList_append_own _ rfl _ _ 35 rfl w.heap.size 40 i0 (.agg #[.int .i64 0, .bool false]) 2 16 Tryz.underlying35 hi hz0 hz1 hz2 rfl (by decide) _ _ _ rfl ((row_later (HROW.out) (KB.out)).alloc _) ⟨w2.heap.size, 0, none⟩ 1 1 [num k, .bool true] rfl rfl ?a1 ?b1 ?c1 ?d1 ?e1 ?_) | (go_at_call 26; refine (third_any x _ (by omega)).mono ?_; rintro e w2 ⟨rfl, hb2⟩; rw [HTH.out]; obtain ⟨kc, kf⟩ := bcell hb2; have KB := Lib.hid (below_then hbox hb2); have kz : wr.heap.size < w2.heap.size := by have := hb2.size; simp at this; omega))
                try (case a1 => exact two_new _ _ (by simp) _ _ _)
                case b1 => simp [Value.oneCell']
                case c1 => (unfold maxLen; omega)
                case d1 => omega
                case e1 => (have := (KB.out).size; first | omega | (simp; omega))
                intro v' w4 hown' hgrow _
                have HG := Lib.hid ((hb.trans (Below.mono (KB.out) hbs)).alloc (by have := (KB.out).size; omega) (.cells #[num k, .bool true] 40) |>.grown hgrow (by have := (KB.out).size; first | omega | (simp; omega)) (own_ge (HROW.out)))
                clear hgrow
                go_wp2_with fail
                go_roundw
                case rel => exact ⟨k + 1, by omega, by go_num, row_cast hown' (by rw [(HF).out, hit_third HT.out M1.out M2.out M3.out]), HG.out⟩
                case measure => simp [intOf]; omega
              · have M3 := Lib.hid m3
                go_wp2_with (go_at_call 26; refine (third_any x _ (by omega)).mono ?_; rintro e w2 ⟨rfl, hb2⟩; rw [HTH.out]; obtain ⟨kc, kf⟩ := bcell hb2; have KB := Lib.hid (below_then hbox hb2); have kz : wr.heap.size < w2.heap.size := by have := hb2.size; simp at this; omega)
                go_roundw
                case rel => exact ⟨k + 1, by omega, by go_num, row_cast0 (row_later (HROW.out) (KB.out)) (by rw [(HF).out, hit_no HT.out M1.out (.inr M3.out)]), hb.trans (Below.mono (KB.out) hbs)⟩
                case measure => simp [intOf]; omega
          · have M1 := Lib.hid m1
            go_wp2_with (first | (at_builtin; refine wpList_append_own _ rfl _ _ 35 rfl w.heap.size 40 i0 (.agg #[.int .i64 0, .bool false]) 2 16 Tryz.underlying35 hi hz0 hz1 hz2 rfl (by decide) _ _ _ rfl ((row_later (HROW.out) (KB.out)).alloc _) ⟨w2.heap.size, 0, none⟩ 1 1 [num k, .bool false] rfl rfl ?a2 ?b2 ?c2 ?d2 ?e2 ?_) | (go_at_call 26; refine (third_any x _ (by omega)).mono ?_; rintro e w2 ⟨rfl, hb2⟩; obtain ⟨kc, kf⟩ := bcell hb2; have KB := Lib.hid (below_then hbox hb2); have kz : wr.heap.size < w2.heap.size := by have := hb2.size; simp at this; omega))
            try (case a2 => exact two_new _ _ (by simp) _ _ _)
            case b2 => simp [Value.oneCell']
            case c2 => (unfold maxLen; omega)
            case d2 => omega
            case e2 => (have := (KB.out).size; first | omega | (simp; omega))
            intro v' w4 hown' hgrow _
            have HG := Lib.hid ((hb.trans (Below.mono (KB.out) hbs)).alloc (by have := (KB.out).size; omega) (.cells #[num k, .bool false] 40) |>.grown hgrow (by have := (KB.out).size; first | omega | (simp; omega)) (own_ge (HROW.out)))
            clear hgrow
            go_wp2_with fail
            go_roundw
            case rel => exact ⟨k + 1, by omega, by go_num, row_cast hown' (by rw [(HF).out, hit_word M1.out]), HG.out⟩
            case measure => simp [intOf]; omega
      · obtain rfl : k = l.length := by omega
        obtain ⟨A', c', hv', hle⟩ := own_form hrow
        subst hv'
        go_wp2_with fail
        go_ret2
        exact ⟨A', c', rfl, hle, Reads.of_own hrow, hb⟩
end Go.Proofs.YtbbgieopcmjoeaaGreatDoor
