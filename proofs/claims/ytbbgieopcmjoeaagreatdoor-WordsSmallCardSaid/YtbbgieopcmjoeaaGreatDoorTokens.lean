/- package words: Tokens. -/
import Derived.Test.YtbbgieopcmjoeaaGreatDoorTokensP
namespace Go.Proofs.YtbbgieopcmjoeaaGreatDoor
open Go.RowKit Go.Shelf
attribute [local go_sem] Oper.semAt_some
theorem pieces_any (s : List UInt8) (w : World) : Calls Tryz.prog 63 #[str s] w fun e w' => e = .returned (.func (.func 97) #[] #[.pointer (some ⟨w.heap.size, 0, none⟩)]) ∧ w' = w.alloc (.cells #[str s] 9) := by
  go_enter Tryz.func63, Tryz.ntmps63
  go_wp2_with fail
  go_ret
  exact ⟨rfl, rfl⟩
theorem pieces_stops (s : List UInt8) (hs : s.length ≤ 1048576) (B : Nat) (w : World) (hB : B < w.heap.size) (hc : w.cell? ⟨B, 0, none⟩ = some (str s)) :
    SeqStopsK Fence.wide 2 Tryz.prog 97 #[.pointer (some ⟨B, 0, none⟩)] encP (KeepsS B) (fun ys => ys.map (·.1) = piecesOf s) (fun pre => pre.map (·.1) <+: piecesOf s) s.length w := fun l J Jx W hW _ _ hY h0 =>
  pieces1_in s hs l B J Jx hY W ((hW.cell (p := ⟨B, 0, none⟩) hB).trans hc) h0
theorem boxed_keep {X Y : World} {row : Option Nat} {B : Nat} {t : TypeId} {v : Value} (h : Boxed X B t v) (hg : X.grownBy Y row) (hr : ∀ r, row = some r → ∃ o : Obj, X.heap[r]? = some o ∧ o.isCells = false) : Boxed Y B t v :=
  h.kept hg (fun e => by obtain ⟨o, ho, hc⟩ := hr B e.symm; rw [show X.heap[B]? = _ from h] at ho; cases ho; cases hc)
theorem row_keep {X Y : World} {row : Option Nat} {n₀ e size k : Nat} {v : Value} {xs : List Value} (h : X.ownsRow n₀ e size v k xs) (hg : X.grownBy Y row) (hr : ∀ r, row = some r → ∃ o : Obj, X.heap[r]? = some o ∧ o.isCells = false) : Y.ownsRow n₀ e size v k xs := by
  refine h.kept hg ?_
  rcases h.2 with ⟨rfl, _⟩ | ⟨g, cap, cur, rfl, _, hgb, _⟩
  · exact .inl rfl
  · refine .inr fun e' => ?_
    obtain ⟨o, ho, hc⟩ := hr g (by simpa [Value.ownBlock] using e'.symm)
    rw [hgb] at ho; cases ho; cases hc
theorem undef_bool {b : Bool} (h : some undef = some (Value.bool b)) : False := by simp [undef] at h
theorem infoStr : (Tryz.prog.info? 9).map (fun i => (i.zero, i.size, i.bytes)) = some (some (.string ⟨#[]⟩), 1, 16) := by kernel_rfl
theorem boxed_other {W : World} {B B' : Nat} {t : TypeId} {v : Value} (u : Value) (h : Boxed W B t v) (hne : B ≠ B') : Boxed (W.setCell ⟨B', 0, none⟩ u) B t v := h.kept (grownBy_setCell' W B' u) (by simpa using hne)
theorem boxed_later {W W' : World} {B : Nat} {t : TypeId} {v : Value} (h : Boxed W B t v) (hb : Below W.heap.size W W') : Boxed W' B t v := (hb.block B h.lt).trans h
theorem row_later {W W' : World} {n₀ e size k : Nat} {v : Value} {xs : List Value} (h : W.ownsRow n₀ e size v k xs) (hb : Below W.heap.size W W') : W'.ownsRow n₀ e size v k xs :=
  h.kept (row := none) ⟨hb.os, hb.tape, hb.output, hb.size, fun i hi _ => hb.block i hi⟩ (by
    rcases h.2 with ⟨rfl, _⟩ | ⟨g, cap, cur, rfl, _, hgb, _⟩
    · exact .inl rfl
    · exact .inr (by simp [Value.ownBlock]))
theorem keepsO_later {W W' : World} (hb : Below W.heap.size W W') : KeepsOthers W W' := ⟨hb.size, fun k _ hk _ => (hb.block k (Array.getElem?_eq_some_iff.1 hk).1).trans hk⟩
theorem tokStep_none {pre : List Piece} {x : Piece} {out : List (List UInt8)} {en : Bool} (h1 : tokAll (pre.map (·.1)) ([], false) = .inr (out, en)) (h : tokStep (out, en) x.1.2 = none) : tokAll ((pre ++ [x]).map (·.1)) ([], false) = .inl x.1.1 := by
  rw [List.map_append, List.map_singleton, tokAll_snoc, h1]; simp only [h]
theorem tokStep_some {pre : List Piece} {x : Piece} {out : List (List UInt8)} {en : Bool} {st} (h1 : tokAll (pre.map (·.1)) ([], false) = .inr (out, en)) (h : tokStep (out, en) x.1.2 = some st) : tokAll ((pre ++ [x]).map (·.1)) ([], false) = .inr st := by
  rw [List.map_append, List.map_singleton, tokAll_snoc, h1]; simp only [h]
/-- What lies in memory between two rounds: out, ended, the three results; the row of out is younger than all of these. -/
def TokB (w W : World) (v a b c : Value) (en : Bool) (out : List (List UInt8)) : Prop :=
  Boxed W (w.heap.size + 1 + 1 + 1) 29 v ∧ W.ownsRow (w.heap.size + 1 + 1 + 1 + 1 + 1 + 1) 9 1 v out.length (out.map str) ∧ Boxed W (w.heap.size + 1 + 1 + 1 + 1) 4 (.bool en) ∧
  Boxed W w.heap.size 29 a ∧ Boxed W (w.heap.size + 1) 3 b ∧ Boxed W (w.heap.size + 1 + 1) 31 c ∧ Below w.heap.size w W ∧ w.heap.size + 1 + 1 + 1 + 1 + 1 + 1 ≤ W.heap.size
/-- What a round keeps: whatever is no cells, and the text's own box. -/
def Kq (w W W' : World) : Prop := KeepsOthers W W' ∧ KeepsS (w.heap.size + 1 + 1 + 1 + 1 + 1) W W'
theorem Kq.trans {w A B C : World} (h : Kq w A B) (k : Kq w B C) : Kq w A C := ⟨h.1.trans k.1, k.2.trans h.2⟩
theorem Kq.refl (w W : World) : Kq w W W := ⟨KeepsOthers.refl _, rfl⟩
theorem Kq.later {w W W' : World} (hz : w.heap.size + 1 + 1 + 1 + 1 + 1 + 1 ≤ W.heap.size) (hb : Below W.heap.size W W') : Kq w W W' := ⟨keepsO_later hb, hb.cell (p := ⟨w.heap.size + 1 + 1 + 1 + 1 + 1, 0, none⟩) (by show w.heap.size + 1 + 1 + 1 + 1 + 1 < W.heap.size; omega)⟩
theorem TokB.later {w W W' : World} {v a b c : Value} {en : Bool} {out : List (List UInt8)} (h : TokB w W v a b c en out) (hb : Below W.heap.size W W') : TokB w W' v a b c en out := by
  obtain ⟨h1, h2, h3, h4, h5, h6, h7, h8⟩ := h
  exact ⟨boxed_later h1 hb, row_later h2 hb, boxed_later h3 hb, boxed_later h4 hb, boxed_later h5 hb, boxed_later h6 hb, below_then h7 hb, Nat.le_trans h8 hb.size⟩
theorem TokB.ended {w W : World} {v a b c : Value} {en : Bool} {out : List (List UInt8)} (h : TokB w W v a b c en out) (en' : Bool) : TokB w (W.setCell ⟨w.heap.size + 1 + 1 + 1 + 1, 0, none⟩ (.bool en')) v a b c en' out ∧ Kq w W (W.setCell ⟨w.heap.size + 1 + 1 + 1 + 1, 0, none⟩ (.bool en')) := by
  obtain ⟨h1, h2, h3, h4, h5, h6, h7, h8⟩ := h
  refine ⟨⟨boxed_other _ h1 (by omega), h2.kept (grownBy_setCell' W _ _) (.inr (fun e => h3.not_row (by decide) h2 e.symm)), h3.set _, boxed_other _ h4 (by omega), boxed_other _ h5 (by omega), boxed_other _ h6 (by omega), h7.setCell (p := ⟨w.heap.size + 1 + 1 + 1 + 1, 0, none⟩) (by show w.heap.size ≤ w.heap.size + 1 + 1 + 1 + 1; omega) _, by simpa [World.size_setCell] using h8⟩, KeepsOthers.setCell _ _ _, ?_⟩
  exact World.cell?_setCell_other W _ _ _ (by intro e; injection e with e1; omega)
theorem TokB.appended {w W w1 : World} {v v' a b c : Value} {en : Bool} {out : List (List UInt8)} {x : List UInt8} {tmp : Obj} (h : TokB w W v a b c en out)
    (hown : w1.ownsRow (w.heap.size + 1 + 1 + 1 + 1 + 1 + 1) 9 1 v' (out.length + 1) (out.map str ++ [str x])) (hgrow : (W.alloc tmp).grownBy w1 v.ownBlock) :
    Boxed w1 (w.heap.size + 1 + 1 + 1) 29 v ∧ TokB w (w1.setCell ⟨w.heap.size + 1 + 1 + 1, 0, none⟩ v') v' a b c en (out ++ [x]) ∧ Kq w W (w1.setCell ⟨w.heap.size + 1 + 1 + 1, 0, none⟩ v') := by
  obtain ⟨h1, h2, h3, h4, h5, h6, h7, h8⟩ := h
  have hblk : ∀ k, k < w.heap.size + 1 + 1 + 1 + 1 + 1 + 1 → w1.heap[k]? = W.heap[k]? := fun k hk => by
    refine (hgrow.block k (by simp; omega) ?_).trans (Below.heap_alloc W tmp k (by omega))
    rcases h2.2 with ⟨rfl, _⟩ | ⟨g, cap, cur, rfl, hg, _⟩
    · simp [Value.ownBlock]
    · simp [Value.ownBlock]; omega
  have hbx : ∀ {B : Nat} {t : TypeId} {u : Value}, B < w.heap.size + 1 + 1 + 1 + 1 + 1 + 1 → Boxed W B t u → Boxed w1 B t u := fun hB hu => (hblk _ hB).trans hu
  have b1 := hbx (by omega) h1
  have hsz : W.heap.size + 1 ≤ w1.heap.size := by have := hgrow.size; simpa using this
  refine ⟨b1, ⟨b1.set _, ?_, boxed_other _ (hbx (by omega) h3) (by omega), boxed_other _ (hbx (by omega) h4) (by omega), boxed_other _ (hbx (by omega) h5) (by omega), boxed_other _ (hbx (by omega) h6) (by omega), ?_, ?_⟩, ?_, ?_⟩
  · have hl : (out ++ [x]).length = out.length + 1 := by simp
    rw [hl, List.map_append]
    exact hown.kept (grownBy_setCell' w1 _ v') (.inr (b1.not_row (by decide) hown).symm)
  · refine Below.setCell ?_ (p := ⟨w.heap.size + 1 + 1 + 1, 0, none⟩) (by show w.heap.size ≤ w.heap.size + 1 + 1 + 1; omega) _
    exact ⟨hgrow.os.trans h7.os, hgrow.tape.trans h7.tape, hgrow.output.trans h7.output, by have := h7.size; omega, fun k hk => (hblk k (by omega)).trans (h7.block k hk)⟩
  · rw [World.size_setCell]; omega
  · refine ((KeepsOthers.alloc W tmp).trans (KeepsOthers.of_grownBy hgrow fun j o ej hj => ?_)).trans (KeepsOthers.setCell _ _ _)
    rcases (h2.alloc tmp).2 with ⟨rfl, _⟩ | ⟨g, cap, cur, rfl, _, hgb, _⟩
    · simp [Value.ownBlock] at ej
    · obtain rfl : g = j := by simpa [Value.ownBlock] using ej
      rw [hgb] at hj; cases hj; rfl
  · refine (World.cell?_setCell_other w1 _ _ _ (by intro e; injection e with e1; omega)).trans ?_
    exact World.cell?_of_block (hblk (w.heap.size + 1 + 1 + 1 + 1 + 1) (by omega))
/-- What holds between two rounds. -/
def TokI (w : World) (pre : List Piece) (W : World) : Prop := ∃ (out : List (List UInt8)) (en : Bool) (v a b c : Value), tokAll (pre.map (·.1)) ([], false) = .inr (out, en) ∧ out.length = pre.length ∧ TokB w W v a b c en out
def TokX (w : World) (c : Code) (pre : List Piece) (W : World) : Prop := ∃ a : Nat, c = .ret ∧ tokAll (pre.map (·.1)) ([], false) = .inl a ∧
  Boxed W w.heap.size 29 (.slice none 0 0) ∧ Boxed W (w.heap.size + 1) 3 (.int .i64 a) ∧ Boxed W (w.heap.size + 1 + 1) 31 (.int .i64 332) ∧ Below w.heap.size w W
theorem tokI_own (w : World) (B : Nat) (hB : w.heap.size ≤ B) : OwnFrom B (TokI w) := by
  rintro pre X Y row ⟨out, en, v, a, b, c, h1, h2, h3, h4, h5, h6, h7, h8, h9, h10⟩ hg hr
  have hr' := fun r e => (hr r e).2
  exact ⟨out, en, v, a, b, c, h1, h2, boxed_keep h3 hg hr', row_keep h4 hg hr', boxed_keep h5 hg hr', boxed_keep h6 hg hr', boxed_keep h7 hg hr', boxed_keep h8 hg hr', ownFrom_below (β := Unit) (Nat.le_refl _) hB () X Y row h9 hg hr, Nat.le_trans h10 hg.size⟩
theorem tokX_own (w : World) (B : Nat) (hB : w.heap.size ≤ B) (c : Code) : OwnFrom B (TokX w c) := by
  rintro pre X Y row ⟨a, h1, h2, h3, h4, h5, h6⟩ hg hr
  have hr' := fun r e => (hr r e).2
  exact ⟨a, h1, h2, boxed_keep h3 hg hr', boxed_keep h4 hg hr', boxed_keep h5 hg hr', ownFrom_below (β := Unit) (Nat.le_refl _) hB () X Y row h6 hg hr⟩
/-- The three results of an error: nothing, the place, ErrChar. -/
theorem tok_err {w W : World} {pre : List Piece} {x : Piece} {v a b c : Value} {en : Bool} {out : List (List UInt8)} (h : tokAll ((pre ++ [x]).map (·.1)) ([], false) = .inl x.1.1) (hB : TokB w W v a b c en out) :
    KeepsOthers W (((W.setCell ⟨w.heap.size, 0, none⟩ (.slice none 0 0)).setCell ⟨w.heap.size + 1, 0, none⟩ (.int .i64 x.1.1)).setCell ⟨w.heap.size + 1 + 1, 0, none⟩ (.int .i64 332)) ∧
    TokX w .ret (pre ++ [x]) (((W.setCell ⟨w.heap.size, 0, none⟩ (.slice none 0 0)).setCell ⟨w.heap.size + 1, 0, none⟩ (.int .i64 x.1.1)).setCell ⟨w.heap.size + 1 + 1, 0, none⟩ (.int .i64 332)) := by
  obtain ⟨_, _, _, h6, h7, h8, h9, _⟩ := hB
  exact ⟨((KeepsOthers.setCell _ _ _).trans (KeepsOthers.setCell _ _ _)).trans (KeepsOthers.setCell _ _ _),
   x.1.1, rfl, h, boxed_other _ (boxed_other _ (h6.set _) (by omega)) (by omega), boxed_other _ ((boxed_other _ h7 (by omega)).set _) (by omega), (boxed_other _ (boxed_other _ h8 (by omega)) (by omega)).set _,
   ((h9.setCell (p := ⟨w.heap.size, 0, none⟩) (Nat.le_refl _) _).setCell (p := ⟨w.heap.size + 1, 0, none⟩) (by simp) _).setCell (p := ⟨w.heap.size + 1 + 1, 0, none⟩) (by simp; omega) _⟩
theorem one_new (W : World) (n : Nat) (hn : W.heap.size = n) (x : Value) (t : TypeId) : ∀ j u, [x][j]? = some u → (W.alloc (.cells #[x] t)).cell? ((⟨n, 0, none⟩ : Addr).add j) = some u := hn ▸ cell_one_new W x t
/-- A round that goes on. -/
theorem tok_next {w W W' : World} {pre : List Piece} {x : Piece} {v a b c : Value} {en en' : Bool} {out : List (List UInt8)} {y : List UInt8} (h1 : tokAll (pre.map (·.1)) ([], false) = .inr (out, en)) (h2 : out.length = pre.length)
    (hs : tokStep (out, en) x.1.2 = some (out ++ [y], en')) (hB : TokB w W' v a b c en' (out ++ [y])) (hk : Kq w W W') : KeepsOthers W W' ∧ KeepsS (w.heap.size + 1 + 1 + 1 + 1 + 1) W W' ∧ TokI w (pre ++ [x]) W' :=
  ⟨hk.1, hk.2, out ++ [y], en', v, a, b, c, tokStep_some h1 hs, by simp [h2], hB⟩
theorem tok_e0 (out : List (List UInt8)) (t : List UInt8) : tokStep (out, true) t = none := by simp [tokStep]
theorem tok_e1 {out : List (List UInt8)} {t : List UInt8} {q : UInt8} (hq : t.headD 0 = q) (hl : letU q = false) (h1 : (t == [44]) = false) (h2 : (t == [46]) = false) : tokStep (out, false) t = none := by
  unfold tokStep; rw [hq, hl, h1, h2]; rfl
theorem tok_e2 {out : List (List UInt8)} {t : List UInt8} {q : UInt8} (hq : t.headD 0 = q) (hl : letU q = false) (ho : out.isEmpty = true) : tokStep (out, false) t = none := by
  unfold tokStep; rw [hq, hl]; simp only [ho]; simp
theorem tok_s1 {out : List (List UInt8)} {t : List UInt8} {q : UInt8} (hq : t.headD 0 = q) (hl : letU q = false) (h1 : (t == [44]) = true ∨ (t == [46]) = true) (ho : out.isEmpty = false) : tokStep (out, false) t = some (out ++ [t], t == [46]) := by
  unfold tokStep; rw [hq, hl]; simp only [ho]
  rcases h1 with h1 | h1 <;> simp [h1]
theorem tok_s2 {out : List (List UInt8)} {t : List UInt8} {q : UInt8} (hq : t.headD 0 = q) (hl : letU q = true) (ho : (out.isEmpty && isFn (lowL t)) = false) : tokStep (out, false) t = some (out ++ [t], t == [46]) := by
  unfold tokStep; rw [hq, hl]; simp only [ho]; simp
theorem tok_s3 {out : List (List UInt8)} {t : List UInt8} {q : UInt8} (hq : t.headD 0 = q) (hl : letU q = true) (ho : (out.isEmpty && isFn (lowL t)) = true) : tokStep (out, false) t = some (out ++ [lowL t], lowL t == [46]) := by
  unfold tokStep; rw [hq, hl]; simp only [ho]; simp
theorem head_ne {t : List UInt8} {q x : UInt8} (hq : t.headD 0 = q) (h : letU q = true) (hx : letU x = false) : (t == [x]) = false := by
  cases t with
  | nil => rfl
  | cons b r =>
    simp at hq
    subst hq
    have : b ≠ x := by rintro rfl; rw [h] at hx; cases hx
    simp [this]
theorem low_head {t : List UInt8} {q : UInt8} (hq : t.headD 0 = q) (h : letU q = true) : (lowL t == [46]) = false := by
  cases t with
  | nil => rfl
  | cons b r =>
    simp at hq
    subst hq
    have : lowU b ≠ 46 := by
      have hall : ∀ n : Fin 256, letU (UInt8.ofNat n.val) = true → lowU (UInt8.ofNat n.val) ≠ 46 := by decide +kernel
      have := hall ⟨b.toNat, b.toNat_lt⟩
      simp only [UInt8.ofNat_toNat] at this
      exact this h
    simp [lowL, this]
def TokPost (w : World) (toks : List (List UInt8)) (at_ er : Int) (e : Ending) (w' : World) : Prop := ∃ A c, e = .returned (.tuple #[.slice A toks.length c, .int .i64 at_, .int .i64 er]) ∧ toks.length ≤ c ∧ Reads w' w'.heap.size 1 A toks.length (toks.map str) ∧ Below w.heap.size w w'
theorem own_form {W : World} {base e size n : Nat} {v : Value} {xs : List Value} (h : W.ownsRow base e size v n xs) : ∃ A c, v = .slice A n c ∧ n ≤ c := by
  rcases h.2 with ⟨rfl, rfl⟩ | ⟨g, cap, cur, rfl, _, _, hnc, _⟩
  · exact ⟨none, 0, rfl, Nat.le_refl _⟩
  · exact ⟨_, cap, rfl, hnc⟩
/-- The three stores of the results, and the block of the rounds' deferred calls put away. -/
theorem tok_end {w W : World} {v a b c u0 u1 u2 : Value} {en : Bool} {out : List (List UInt8)} {D : Nat} (h : TokB w W v a b c en out) (hK : W.heap[D]? = some (.deferred (some []))) (hD : w.heap.size ≤ D) :
    let W3 := ((W.setCell ⟨w.heap.size, 0, none⟩ u0).setCell ⟨w.heap.size + 1, 0, none⟩ u1).setCell ⟨w.heap.size + 1 + 1, 0, none⟩ u2
    W3.heap[D]? = some (.deferred (some [])) ∧ (W3.putObj D (.deferred none)).cell? ⟨w.heap.size, 0, none⟩ = some u0 ∧ (W3.putObj D (.deferred none)).cell? ⟨w.heap.size + 1, 0, none⟩ = some u1 ∧
    (W3.putObj D (.deferred none)).cell? ⟨w.heap.size + 1 + 1, 0, none⟩ = some u2 ∧ Below w.heap.size w (W3.putObj D (.deferred none)) ∧ (W3.putObj D (.deferred none)).ownsRow (w.heap.size + 1 + 1 + 1 + 1 + 1 + 1) 9 1 v out.length (out.map str) := by
  intro W3
  obtain ⟨h1, h2, h3, h4, h5, h6, h7, h8⟩ := h
  have hK3 : W3.heap[D]? = some (.deferred (some [])) := (((KeepsOthers.setCell W _ u0).trans (KeepsOthers.setCell _ _ u1)).trans (KeepsOthers.setCell _ _ u2)).same D _ hK rfl
  have k0 : Boxed W3 w.heap.size 29 u0 := boxed_other _ (boxed_other _ (h4.set _) (by omega)) (by omega)
  have k1 : Boxed W3 (w.heap.size + 1) 3 u1 := boxed_other _ ((boxed_other _ h5 (by omega)).set _) (by omega)
  have k2 : Boxed W3 (w.heap.size + 1 + 1) 31 u2 := (boxed_other _ (boxed_other _ h6 (by omega)) (by omega)).set _
  have kr : W3.ownsRow (w.heap.size + 1 + 1 + 1 + 1 + 1 + 1) 9 1 v out.length (out.map str) :=
    (h2.kept (grownBy_setCell' W _ u0) (.inr (fun e => h4.not_row (by decide) h2 e.symm))).kept (grownBy_setCell' _ _ u1) (.inr (fun e => (boxed_other u0 h5 (by omega)).not_row (by decide) (h2.kept (grownBy_setCell' W _ u0) (.inr (fun e => h4.not_row (by decide) h2 e.symm))) e.symm)) |>.kept (grownBy_setCell' _ _ u2)
      (.inr (fun e => (boxed_other u1 (boxed_other u0 h6 (by omega)) (by omega)).not_row (by decide) ((h2.kept (grownBy_setCell' W _ u0) (.inr (fun e => h4.not_row (by decide) h2 e.symm))).kept (grownBy_setCell' _ _ u1) (.inr (fun e => (boxed_other u0 h5 (by omega)).not_row (by decide) (h2.kept (grownBy_setCell' W _ u0) (.inr (fun e => h4.not_row (by decide) h2 e.symm))) e.symm))) e.symm))
  have kb : Below w.heap.size w W3 := ((h7.setCell (p := ⟨w.heap.size, 0, none⟩) (Nat.le_refl _) _).setCell (p := ⟨w.heap.size + 1, 0, none⟩) (by simp) _).setCell (p := ⟨w.heap.size + 1 + 1, 0, none⟩) (by simp; omega) _
  have hg := grownBy_putObj' W3 D (.deferred none)
  have hr : ∀ r, some D = some r → ∃ o : Obj, W3.heap[r]? = some o ∧ o.isCells = false := fun r e => by cases e; exact ⟨_, hK3, rfl⟩
  exact ⟨hK3, (boxed_keep k0 hg hr).cell, (boxed_keep k1 hg hr).cell, (boxed_keep k2 hg hr).cell, kb.trans (belowK_b (w := w) (Nat.le_refl _) W3 D _ _ hD hK3 rfl rfl), row_keep kr hg hr⟩
theorem len_own {W : World} {n₀ k : Nat} {v : Value} {xs : List Value} (h : W.ownsRow n₀ 9 1 v k xs) (W' : World) : (Builtin.len_ #[29] 3 #[v]).run Tryz.prog W' = .ok (.int .i64 k) W' := by
  rcases h.2 with ⟨rfl, rfl⟩ | ⟨g, cap, cur, rfl, _⟩
  · go_simp
  · go_simp
theorem cellKept_put {W : World} {l B : Nat} {o' : Obj} (h : B ≠ l) : KeepsS B W (W.putObj l o') := World.cell?_of_block (w := W) (World.putObj_heap_other h)
set_option maxRecDepth 100000 in
set_option maxHeartbeats 4000000 in
theorem tokens_in (s : List UInt8) (hs : s.length ≤ 1000) (w : World) :
    CallsIn Fence.wide 3 Tryz.prog 27 #[str s] w (TokPost w (tokensR s).1 (tokensR s).2.1 (tokensR s).2.2) := by
  have hwide : ∀ f, Fence.wide.fn f := fun _ => trivial
  have hd : decide (1000 < (s.length : Int)) = false := by simp; omega
  obtain ⟨i0, hi, hz0, hz1, hz2⟩ := info_parts infoStr
  refine callsIn_of_wp_marks Tryz.func27 rfl trivial ?_ rfl
  simp only [Tryz.ntmps27, List.size_toArray, List.length_cons, List.length_nil, Nat.reduceAdd, Nat.reduceSub, Array.replicate_succ, Array.replicate_zero, List.push_toArray, List.append_toArray, List.nil_append, List.cons_append]
  gi_wp2_with (gi_at_call 63; refine (callsIn_wide.2 (pieces_any _ _)).mono ?_; rintro e w' ⟨rfl, rfl⟩)
  obtain ⟨W0, hW0⟩ : ∃ W0 : World, W0 = ((((((w.alloc (.cells #[.slice none 0 0] 29)).alloc (.cells #[.int .i64 0] 3)).alloc (.cells #[.int .i64 0] 31)).alloc (.cells #[.slice none 0 0] 29)).alloc (.cells #[.bool false] 4)).alloc (.cells #[str s] 9)) := ⟨_, rfl⟩
  have b0 := (((((Boxed.new w 29 (.slice none 0 0)).alloc (.cells #[.int .i64 0] 3)).alloc (.cells #[.int .i64 0] 31)).alloc (.cells #[.slice none 0 0] 29)).alloc (.cells #[.bool false] 4)).alloc (.cells #[str s] 9)
  have b1 := ((((Boxed.new (w.alloc (.cells #[.slice none 0 0] 29)) 3 (.int .i64 0)).alloc (.cells #[.int .i64 0] 31)).alloc (.cells #[.slice none 0 0] 29)).alloc (.cells #[.bool false] 4)).alloc (.cells #[str s] 9)
  have b2 := (((Boxed.new ((w.alloc (.cells #[.slice none 0 0] 29)).alloc (.cells #[.int .i64 0] 3)) 31 (.int .i64 0)).alloc (.cells #[.slice none 0 0] 29)).alloc (.cells #[.bool false] 4)).alloc (.cells #[str s] 9)
  have b3 := ((Boxed.new (((w.alloc (.cells #[.slice none 0 0] 29)).alloc (.cells #[.int .i64 0] 3)).alloc (.cells #[.int .i64 0] 31)) 29 (.slice none 0 0)).alloc (.cells #[.bool false] 4)).alloc (.cells #[str s] 9)
  have b4 := (Boxed.new ((((w.alloc (.cells #[.slice none 0 0] 29)).alloc (.cells #[.int .i64 0] 3)).alloc (.cells #[.int .i64 0] 31)).alloc (.cells #[.slice none 0 0] 29)) 4 (.bool false)).alloc (.cells #[str s] 9)
  have b5 := Boxed.new (((((w.alloc (.cells #[.slice none 0 0] 29)).alloc (.cells #[.int .i64 0] 3)).alloc (.cells #[.int .i64 0] 31)).alloc (.cells #[.slice none 0 0] 29)).alloc (.cells #[.bool false] 4)) 9 (str s)
  simp only [World.size_alloc] at b1 b2 b3 b4 b5
  have hB0 : Below w.heap.size w W0 := by
    rw [hW0]
    exact ((((((Below.refl _ w).alloc (Nat.le_refl _) _).alloc (by simp) _).alloc (by simp; omega) _).alloc (by simp; omega) _).alloc (by simp; omega) _).alloc (by simp; omega) _
  have hz : W0.heap.size = w.heap.size + 1 + 1 + 1 + 1 + 1 + 1 := by rw [hW0]; simp
  rw [← hW0] at b0 b1 b2 b3 b4 b5 ⊢
  clear hW0
  refine wpIn_rangeFunc_ownF rfl (by omega) (gf := 97) (lb := #[.pointer (some ⟨w.heap.size + 1 + 1 + 1 + 1 + 1, 0, none⟩)]) rfl trivial (enters_of Tryz.func97 (by kernel_rfl) rfl)
    (pieces_stops s (by omega) (w.heap.size + 1 + 1 + 1 + 1 + 1) W0 b5.lt b5.cell) (fun h k => k.trans h) (fun W l o o' hl h hc _ => cellKept_put (by omega)) (Below.refl _ _) (fun _ => rfl)
    (TokI w) (TokX w) (tokI_own w _ hB0.size) (tokX_own w _ hB0.size)
    ⟨[], false, _, _, _, _, rfl, rfl, b3, World.ownsRow_nil _ _ _ _, b4, b0, b1, b2, hB0, by omega⟩
    (fun x => { tmps := #[str s, undef, .pointer (some ⟨w.heap.size, 0, none⟩), .pointer (some ⟨w.heap.size + 1, 0, none⟩), .pointer (some ⟨w.heap.size + 1 + 1, 0, none⟩), .pointer (some ⟨w.heap.size + 1 + 1 + 1, 0, none⟩), .pointer (some ⟨w.heap.size + 1 + 1 + 1 + 1, 0, none⟩), num x.1.1, str x.1.2, str s, .int .i64 s.length, .bool false, str s, .func (.func 97) #[] #[.pointer (some ⟨w.heap.size + 1 + 1 + 1 + 1 + 1, 0, none⟩)], num x.1.1, str x.1.2, undef, undef, undef, undef, undef, undef, undef, undef, undef, undef, undef, undef, undef, undef, undef, undef, undef, undef, undef, undef, undef, undef, undef, undef, undef, undef, undef, undef, undef, undef, undef, undef, undef, undef, undef, undef, undef, undef, undef, undef, undef, undef, undef, undef, undef, undef, undef, undef, undef, undef], defers := [] }) ?assign ?body ?done ?stop
  case assign =>
    intro l x W K hK
    gi_wp2
    exact hK
  case body =>
    rintro l pre ⟨⟨at_, t⟩, ht⟩ W ⟨out, en, v, a, b, c, h1, h2, hB⟩ hlt
    have hlv := len_own hB.2.1
    have HT := Lib.hid (⟨h1, h2⟩ : _ ∧ _)
    have hl0 : 0 < t.length := by cases t with
      | nil => exact absurd rfl ht.1
      | cons => simp
    have hlx : t.length ≤ 1048576 := ht.2.1
    have HA : Hid (letU (t.headD 0) = true → t.all letU = true) := ht.2.2
    obtain ⟨q, hq⟩ : ∃ q, t.headD 0 = q := ⟨_, rfl⟩
    have hg : ∀ h, (ByteArray.mk t.toArray)[0]'h = q := fun h => by rw [ba_get, ← hq]; cases t <;> rfl
    have HQ := Lib.hid hq; clear hq
    have hol : out.length ≤ 1000 := by omega
    have c0 := hB.2.2.2.1.cell; have f0 := hB.2.2.2.1.frozen
    have c1 := hB.2.2.2.2.1.cell; have f1 := hB.2.2.2.2.1.frozen
    have c2 := hB.2.2.2.2.2.1.cell; have f2 := hB.2.2.2.2.2.1.frozen
    have c3 := hB.1.cell; have f3 := hB.1.frozen
    have c4 := hB.2.2.1.cell; have f4 := hB.2.2.1.frozen
    have HB := Lib.hid hB; clear hB
    clear h1 h2
    cases en
    · cases hlb : letU q
      · have HLB : Hid (letB (q.toNat : Int) = false) := hlb
        have HLU := Lib.hid hlb; clear hlb
        cases hc1 : (t == [44]) <;> cases hc2 : (t == [46])
        · have HC1 := Lib.hid hc1; have HC2 := Lib.hid hc2
          gi_wp2_with (gi_at_call 64; first | exact (undef_bool (by assumption)).elim | (refine (CallsIn.inRound l (callsIn_wide.2 (wletter_any _ _))).mono ?_; rintro e w1 ⟨rfl, rfl⟩; rw [HLB.out]))
          all_goals exact tok_err (x := ⟨(at_, t), ht⟩) (tokStep_none (HT.out).1 (tok_e1 HQ.out HLU.out HC1.out HC2.out)) HB.out
        · have HC1 := Lib.hid hc1; have HC2 := Lib.hid hc2
          cases hoe : out.isEmpty
          · have hln : ((out.length : Int) == 0) = false := by cases out with
              | nil => cases hoe
              | cons => simp; omega
            have HO := Lib.hid hoe; clear hoe
            obtain ⟨PB, PK⟩ := (HB.out).ended true
            have HPK := Lib.hid PK
            clear PK
            gi_wp2_with (first | (gi_at_builtin; refine wpListIn_append_own _ rfl _ _ 29 rfl (w.heap.size + 1 + 1 + 1 + 1 + 1 + 1) 9 i0 (.string ⟨#[]⟩) 1 16 Tryz.underlying29 hi hz0 hz1 hz2 rfl (by decide) _ _ _ rfl (PB.2.1.alloc _) ⟨W.heap.size, 0, none⟩ 1 1 [str t] rfl rfl ?a1 ?b1 ?c1 ?d1 ?e1 ?_) | (gi_at_call 64; first | exact (undef_bool (by assumption)).elim | (refine (CallsIn.inRound l (callsIn_wide.2 (wletter_any _ _))).mono ?_; rintro e w1 ⟨rfl, rfl⟩; rw [HLB.out])))
            case a1 => exact (one_new _ _ (by simp [World.size_setCell]) _ _)
            case b1 => simp [Value.oneCell']
            case c1 => (unfold maxLen; omega)
            case d1 => omega
            case e1 => (have := PB.2.2.2.2.2.2.2; simp at this ⊢; omega)
            intro v' w4 hown' hgrow _
            obtain ⟨g', cap', rfl⟩ := ownsRow_succ hown'
            obtain ⟨hv1, hv2, hk2⟩ := PB.appended hown' hgrow
            have hc5 := hv1.cell; have hf5 := hv1.frozen
            clear hown' hgrow
            gi_wp2_with fail
            exact tok_next (HT.out).1 (HT.out).2 ((tok_s1 HQ.out HLU.out (.inr HC2.out) HO.out).trans (by rw [HC2.out])) hv2 ((HPK.out).trans hk2)
          · have hln : ((out.length : Int) == 0) = true := by cases out with
              | nil => rfl
              | cons => cases hoe
            have HO := Lib.hid hoe; clear hoe
            gi_wp2_with (gi_at_call 64; first | exact (undef_bool (by assumption)).elim | (refine (CallsIn.inRound l (callsIn_wide.2 (wletter_any _ _))).mono ?_; rintro e w1 ⟨rfl, rfl⟩; rw [HLB.out]))
            all_goals exact tok_err (x := ⟨(at_, t), ht⟩) (tokStep_none (HT.out).1 (tok_e2 HQ.out HLU.out HO.out)) HB.out
        · have HC1 := Lib.hid hc1; have HC2 := Lib.hid hc2
          cases hoe : out.isEmpty
          · have hln : ((out.length : Int) == 0) = false := by cases out with
              | nil => cases hoe
              | cons => simp; omega
            have HO := Lib.hid hoe; clear hoe
            obtain ⟨PB, PK⟩ := (HB.out).ended false
            have HPK := Lib.hid PK
            clear PK
            gi_wp2_with (first | (gi_at_builtin; refine wpListIn_append_own _ rfl _ _ 29 rfl (w.heap.size + 1 + 1 + 1 + 1 + 1 + 1) 9 i0 (.string ⟨#[]⟩) 1 16 Tryz.underlying29 hi hz0 hz1 hz2 rfl (by decide) _ _ _ rfl (PB.2.1.alloc _) ⟨W.heap.size, 0, none⟩ 1 1 [str t] rfl rfl ?a2 ?b2 ?c2 ?d2 ?e2 ?_) | (gi_at_call 64; first | exact (undef_bool (by assumption)).elim | (refine (CallsIn.inRound l (callsIn_wide.2 (wletter_any _ _))).mono ?_; rintro e w1 ⟨rfl, rfl⟩; rw [HLB.out])))
            case a2 => exact (one_new _ _ (by simp [World.size_setCell]) _ _)
            case b2 => simp [Value.oneCell']
            case c2 => (unfold maxLen; omega)
            case d2 => omega
            case e2 => (have := PB.2.2.2.2.2.2.2; simp at this ⊢; omega)
            intro v' w4 hown' hgrow _
            obtain ⟨g', cap', rfl⟩ := ownsRow_succ hown'
            obtain ⟨hv1, hv2, hk2⟩ := PB.appended hown' hgrow
            have hc5 := hv1.cell; have hf5 := hv1.frozen
            clear hown' hgrow
            gi_wp2_with fail
            exact tok_next (HT.out).1 (HT.out).2 ((tok_s1 HQ.out HLU.out (.inl HC1.out) HO.out).trans (by rw [HC2.out])) hv2 ((HPK.out).trans hk2)
          · have hln : ((out.length : Int) == 0) = true := by cases out with
              | nil => rfl
              | cons => cases hoe
            have HO := Lib.hid hoe; clear hoe
            gi_wp2_with (gi_at_call 64; first | exact (undef_bool (by assumption)).elim | (refine (CallsIn.inRound l (callsIn_wide.2 (wletter_any _ _))).mono ?_; rintro e w1 ⟨rfl, rfl⟩; rw [HLB.out]))
            all_goals exact tok_err (x := ⟨(at_, t), ht⟩) (tokStep_none (HT.out).1 (tok_e2 HQ.out HLU.out HO.out)) HB.out
        · have e1 := beq_iff_eq.1 hc1
          have e2 := beq_iff_eq.1 hc2
          rw [e1] at e2
          cases e2
      · have HLB : Hid (letB (q.toNat : Int) = true) := hlb
        have HLU := Lib.hid hlb
        have hall := (HA.out) (by rw [HQ.out]; exact hlb)
        have HALL := Lib.hid hall; clear hall
        have hc2 : (t == [46]) = false := head_ne HQ.out hlb (by decide)
        clear hlb
        have HC2 := Lib.hid hc2
        cases hoe : out.isEmpty
        · have hln : ((out.length : Int) == 0) = false := by cases out with
            | nil => cases hoe
            | cons => simp; omega
          have HO := Lib.hid hoe; clear hoe
          obtain ⟨PB, PK⟩ := (HB.out).ended false
          have HPK := Lib.hid PK
          clear PK
          gi_wp2_with (first | (gi_at_builtin; refine wpListIn_append_own _ rfl _ _ 29 rfl (w.heap.size + 1 + 1 + 1 + 1 + 1 + 1) 9 i0 (.string ⟨#[]⟩) 1 16 Tryz.underlying29 hi hz0 hz1 hz2 rfl (by decide) _ _ _ rfl (PB.2.1.alloc _) ⟨W.heap.size, 0, none⟩ 1 1 [str t] rfl rfl ?a3 ?b3 ?c3 ?d3 ?e3 ?_) | (gi_at_call 64; first | exact (undef_bool (by assumption)).elim | (refine (CallsIn.inRound l (callsIn_wide.2 (wletter_any _ _))).mono ?_; rintro e w1 ⟨rfl, rfl⟩; rw [HLB.out])))
          case a3 => exact (one_new _ _ (by simp [World.size_setCell]) _ _)
          case b3 => simp [Value.oneCell']
          case c3 => (unfold maxLen; omega)
          case d3 => omega
          case e3 => (have := PB.2.2.2.2.2.2.2; simp at this ⊢; omega)
          intro v' w4 hown' hgrow _
          obtain ⟨g', cap', rfl⟩ := ownsRow_succ hown'
          obtain ⟨hv1, hv2, hk2⟩ := PB.appended hown' hgrow
          have hc5 := hv1.cell; have hf5 := hv1.frozen
          clear hown' hgrow
          gi_wp2_with fail
          exact tok_next (HT.out).1 (HT.out).2 ((tok_s2 HQ.out HLU.out (by rw [HO.out]; rfl)).trans (by rw [HC2.out])) hv2 ((HPK.out).trans hk2)
        · have hln : ((out.length : Int) == 0) = true := by cases out with
            | nil => rfl
            | cons => cases hoe
          have HO := Lib.hid hoe; clear hoe
          cases hfn : isFn (lowL t)
          · have HF := Lib.hid hfn; clear hfn
            gi_wp2_with (first | (gi_at_builtin; refine wpListIn_append_own _ rfl _ _ 29 rfl (w.heap.size + 1 + 1 + 1 + 1 + 1 + 1) 9 i0 (.string ⟨#[]⟩) 1 16 Tryz.underlying29 hi hz0 hz1 hz2 rfl (by decide) _ _ _ rfl (PB.2.1.alloc _) ⟨w2.heap.size, 0, none⟩ 1 1 [str t] rfl rfl ?a4 ?b4 ?c4 ?d4 ?e4 ?_) | (gi_at_call 64; first | exact (undef_bool (by assumption)).elim | (refine (CallsIn.inRound l (callsIn_wide.2 (wletter_any _ _))).mono ?_; rintro e w1 ⟨rfl, rfl⟩; rw [HLB.out])) | (gi_at_call 65; refine (CallsIn.inRound l (callsIn_wide.2 (lower_any t _ HALL.out hlx))).mono ?_; rintro e w1 ⟨rfl, hb1⟩; have P1 := Lib.hid ((HB.out).later hb1); have K1 := Lib.hid (Kq.later (w := w) (HB.out).2.2.2.2.2.2.2 hb1); clear hb1) | (gi_at_call 35; refine (CallsIn.inRound l (callsIn_wide.2 (function_any (lowL t) _))).mono ?_; rintro e w2 ⟨rfl, hb2⟩; rw [HF.out]; obtain ⟨PB, PK⟩ := ((P1.out).later hb2).ended false; have P2 := (P1.out).later hb2; have K2 := Lib.hid ((K1.out).trans (Kq.later (w := w) (P1.out).2.2.2.2.2.2.2 hb2)); have HPK := Lib.hid PK; clear PK hb2; have d3 := P2.1.cell; have g3 := P2.1.frozen; have d4 := P2.2.2.1.cell; have g4 := P2.2.2.1.frozen; have HP2 := Lib.hid P2; clear P2))
            case a4 => exact (one_new _ _ (by simp [World.size_setCell]) _ _)
            case b4 => simp [Value.oneCell']
            case c4 => (unfold maxLen; omega)
            case d4 => omega
            case e4 => (have := PB.2.2.2.2.2.2.2; simp at this ⊢; omega)
            intro v' w4 hown' hgrow _
            obtain ⟨g', cap', rfl⟩ := ownsRow_succ hown'
            obtain ⟨hv1, hv2, hk2⟩ := PB.appended hown' hgrow
            have hc5 := hv1.cell; have hf5 := hv1.frozen
            clear hown' hgrow
            gi_wp2_with fail
            exact tok_next (HT.out).1 (HT.out).2 ((tok_s2 HQ.out HLU.out (by rw [HF.out]; simp)).trans (by rw [HC2.out])) hv2 ((K2.out).trans ((HPK.out).trans hk2))
          · have HF := Lib.hid hfn; clear hfn
            have tok1 : Hid (out.length ≤ 1000) := hol
            have hlw : (lowL t == [46]) = false := low_head HQ.out HLU.out
            gi_wp2_with (first | (gi_at_builtin; refine wpListIn_append_own _ rfl _ _ 29 rfl (w.heap.size + 1 + 1 + 1 + 1 + 1 + 1) 9 i0 (.string ⟨#[]⟩) 1 16 Tryz.underlying29 hi hz0 hz1 hz2 rfl (by decide) _ _ _ rfl (PB.2.1.alloc _) ⟨w3.heap.size, 0, none⟩ 1 1 [str (lowL t)] rfl rfl ?a5 ?b5 ?c5 ?d5 ?e5 ?_) | (gi_at_call 64; first | exact (undef_bool (by assumption)).elim | (refine (CallsIn.inRound l (callsIn_wide.2 (wletter_any _ _))).mono ?_; rintro e w1 ⟨rfl, rfl⟩; rw [HLB.out])) | (gi_at_call 65; have tk := tok1; refine (CallsIn.inRound l (callsIn_wide.2 (lower_any t _ HALL.out hlx))).mono ?_; clear tok1 tk; rintro e w1 ⟨rfl, hb1⟩; have P1 := Lib.hid ((HB.out).later hb1); have K1 := Lib.hid (Kq.later (w := w) (HB.out).2.2.2.2.2.2.2 hb1); clear hb1) | (gi_at_call 35; refine (CallsIn.inRound l (callsIn_wide.2 (function_any (lowL t) _))).mono ?_; rintro e w2 ⟨rfl, hb2⟩; rw [HF.out]; have P2 := Lib.hid ((P1.out).later hb2); have K2 := Lib.hid ((K1.out).trans (Kq.later (w := w) (P1.out).2.2.2.2.2.2.2 hb2)); clear hb2) | (gi_at_call 65; refine (CallsIn.inRound l (callsIn_wide.2 (lower_any t _ HALL.out hlx))).mono ?_; rintro e w3 ⟨rfl, hb3⟩; obtain ⟨PB, PK⟩ := ((P2.out).later hb3).ended false; have P3 := (P2.out).later hb3; have K3 := Lib.hid ((K2.out).trans (Kq.later (w := w) (P2.out).2.2.2.2.2.2.2 hb3)); have HPK := Lib.hid PK; clear PK hb3; have d3 := P3.1.cell; have g3 := P3.1.frozen; have d4 := P3.2.2.1.cell; have g4 := P3.2.2.1.frozen; have HP3 := Lib.hid P3; clear P3))
            case a5 => exact (one_new _ _ (by simp [World.size_setCell]) _ _)
            case b5 => simp [Value.oneCell']
            case c5 => (unfold maxLen; omega)
            case d5 => omega
            case e5 => (have := PB.2.2.2.2.2.2.2; simp at this ⊢; omega)
            intro v' w4 hown' hgrow _
            obtain ⟨g', cap', rfl⟩ := ownsRow_succ hown'
            obtain ⟨hv1, hv2, hk2⟩ := PB.appended hown' hgrow
            have hc5 := hv1.cell; have hf5 := hv1.frozen
            clear hown' hgrow
            gi_wp2_with fail
            exact tok_next (HT.out).1 (HT.out).2 ((tok_s3 HQ.out HLU.out (by rw [HF.out, HO.out]; rfl)).trans (by rw [low_head HQ.out HLU.out])) hv2 ((K3.out).trans ((HPK.out).trans hk2))
    · -- behind the period
      gi_wp2_with (gi_at_call 64; exact (undef_bool (by assumption)).elim)
      all_goals exact tok_err (x := ⟨(at_, t), ht⟩) (tokStep_none (HT.out).1 (tok_e0 _ _)) HB.out
  case done =>
    rintro D ys W hD hS ⟨out, en, v, a, b, c, h1, h2, hB⟩ hK
    rw [hS] at h1
    have hR : tokensR s = (if en then (out, 0, 0) else ([], (s.length : Int), 332) : List (List UInt8) × Int × Int) := by
      unfold tokensR; rw [if_neg (by omega), h1]
    have HR := Lib.hid hR
    obtain ⟨A, c', rfl, hle⟩ := own_form hB.2.1
    have c0 := hB.2.2.2.1.cell; have f0 := hB.2.2.2.1.frozen
    have c1 := hB.2.2.2.2.1.cell; have f1 := hB.2.2.2.2.1.frozen
    have c2 := hB.2.2.2.2.2.1.cell; have f2 := hB.2.2.2.2.2.1.frozen
    have c3 := hB.1.cell; have f3 := hB.1.frozen
    have c4 := hB.2.2.1.cell; have f4 := hB.2.2.1.frozen
    have HB := Lib.hid hB; clear hB hR h1 h2
    cases en
    · gi_wp2_with fail
      have hx := tok_end (u0 := .slice none 0 0) (u1 := .int .i64 s.length) (u2 := .int .i64 332) HB.out hK (by have := hB0.size; omega)
      refine ⟨by simp, .inl ⟨_, _, rfl, run_takeDeferred hx.1, ?_⟩⟩
      refine ⟨.tuple #[.slice none 0 0, .int .i64 s.length, .int .i64 332], ?_, ?_⟩
      · have e0 := hx.2.1; have e1 := hx.2.2.1; have e2 := hx.2.2.2.1
        simp [results, Tryz.f27, go_sem, e0, e1, e2]
      · rw [HR.out]
        exact ⟨none, 0, rfl, Nat.le_refl _, Reads.none_, hx.2.2.2.2.1⟩
    · gi_wp2_with fail
      have hx := tok_end (u0 := .slice A out.length c') (u1 := .int .i64 0) (u2 := .int .i64 0) HB.out hK (by have := hB0.size; omega)
      refine ⟨by simp, .inl ⟨_, _, rfl, run_takeDeferred hx.1, ?_⟩⟩
      refine ⟨.tuple #[.slice A out.length c', .int .i64 0, .int .i64 0], ?_, ?_⟩
      · have e0 := hx.2.1; have e1 := hx.2.2.1; have e2 := hx.2.2.2.1
        simp [results, Tryz.f27, go_sem, e0, e1, e2]
      · rw [HR.out]
        exact ⟨A, c', rfl, hle, Reads.of_own hx.2.2.2.2.2, hx.2.2.2.2.1⟩
  case stop =>
    rintro D c pre W hD hSp ⟨at_, rfl, h1, h3, h4, h5, h6⟩ hK
    have hR : tokensR s = ([], (at_ : Int), 332) := by
      obtain ⟨r, hr⟩ := hSp
      unfold tokensR
      rw [if_neg (by omega), ← hr, tokAll_prefix _ r _ h1]
    have HR := Lib.hid hR; clear hR h1
    gi_wp2_with fail
    refine ⟨by simp, .inl ⟨_, _, rfl, run_takeDeferred hK, ?_⟩⟩
    have hkb : Below w.heap.size w (W.putObj D (.deferred none)) := h6.trans (belowK_b (w := w) (Nat.le_refl _) W D _ _ (by have := hB0.size; omega) hK rfl rfl)
    have e0 := (boxed_keep h3 (grownBy_putObj' _ D (.deferred none)) (fun r e => by cases e; exact ⟨_, hK, rfl⟩)).cell
    have e1 := (boxed_keep h4 (grownBy_putObj' _ D (.deferred none)) (fun r e => by cases e; exact ⟨_, hK, rfl⟩)).cell
    have e2 := (boxed_keep h5 (grownBy_putObj' _ D (.deferred none)) (fun r e => by cases e; exact ⟨_, hK, rfl⟩)).cell
    refine ⟨.tuple #[.slice none 0 0, .int .i64 at_, .int .i64 332], ?_, ?_⟩
    · simp [results, Tryz.f27, go_sem, e0, e1, e2]
    · rw [HR.out]
      exact ⟨none, 0, rfl, Nat.le_refl _, Reads.none_, hkb⟩
set_option maxRecDepth 100000 in
theorem tokens_any (s : List UInt8) (w : World) (hm : s.length ≤ 140737488355328) : Calls Tryz.prog 27 #[str s] w (TokPost w (tokensR s).1 (tokensR s).2.1 (tokensR s).2.2) := by
  rcases Nat.lt_or_ge 1000 s.length with h | h
  · have HR : Hid (tokensR s = ([], 0, 3)) := by unfold tokensR; rw [if_pos h]; rfl
    have hd : decide (1000 < (s.length : Int)) = true := by simp; omega
    rw [HR.out]
    go_enter Tryz.func27, Tryz.ntmps27
    go_wp2_with fail
    go_returns
    exact ⟨none, 0, rfl, Nat.le_refl _, Reads.none_, (((Below.refl _ _).alloc (Nat.le_refl _) _).alloc (by simp) _).alloc (by simp; omega) _⟩
  · exact callsIn_wide.1 (tokens_in s h w)
end Go.Proofs.YtbbgieopcmjoeaaGreatDoor
