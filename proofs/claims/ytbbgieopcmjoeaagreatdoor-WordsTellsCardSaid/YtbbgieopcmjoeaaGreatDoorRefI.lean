/- lyceumlaw33.Given, Taken: a lexicon copied entry by entry into a row of the call's own. -/
import Derived.Test.YtbbgieopcmjoeaaGreatDoorRefH
namespace Go.Proofs.YtbbgieopcmjoeaaGreatDoor
open Go.RowKit
theorem infoEntR : (Tryz.prog.info? 46).map (fun i => (i.zero, i.size, i.bytes)) = some (some (.agg #[.string ⟨#[]⟩, .int .u8 0, .string ⟨#[]⟩]), 3, 40) := by kernel_rfl
theorem three_new (W : World) (n : Nat) (hn : W.heap.size = n) (x y z : Value) (t : TypeId) : ∀ j u, [x, y, z][j]? = some u → (W.alloc (.cells #[x, y, z] t)).cell? ((⟨n, 0, none⟩ : Addr).add j) = some u := by
  subst hn
  intro j u hj
  rw [addr_add, Nat.zero_add, World.cell?_alloc_mark]
  simpa using hj
theorem flat_snocE (l : List Ent) (e : Ent) : flat (l ++ [e]) = flat l ++ entCells e := by simp [flat]
theorem flat_step (l : List Ent) (k : Nat) (hk : k < l.length) : flat (l.take (k + 1)) = flat (l.take k) ++ entCells l[k] := by
  rw [List.take_succ_eq_append_getElem hk, flat_snocE]
theorem rowE_cast {W : World} {B e : Nat} {v : Value} {fs gs : List Ent} {f : Ent} (h : W.ownsRow B e 3 v (fs.length + 1) (flat fs ++ entCells f)) (hg : gs = fs ++ [f]) : W.ownsRow B e 3 v gs.length (flat gs) := by
  rw [hg, flat_snocE]; simpa using h
/-- A lexicon in a row of the call's own. -/
def RowPost (T : TypeId) (w : World) (ls : List Ent) (e : Ending) (w' : World) : Prop := ∃ A c, e = .returned (.slice A ls.length c) ∧ ls.length ≤ c ∧ w'.ownsRow w.heap.size T 3 (.slice A ls.length c) ls.length (flat ls) ∧ Below w.heap.size w w'
set_option maxRecDepth 100000 in
set_option maxHeartbeats 1600000 in
theorem given_any (l : List Ent) (A : Option Addr) (c : Nat) (w : World) (hl : l.length ≤ 1048576) (hr : Reads w w.heap.size 3 A l.length (flat l)) :
    Calls Tryz.prog 19 #[.slice A l.length c] w (RowPost 46 w l) := by
  have HR := Lib.hid hr; clear hr
  obtain ⟨i0, hi, hz0, hz1, hz2⟩ := info_parts infoEntR
  go_enter Tryz.func19, Tryz.ntmps19
  go_wp2_with fail
  go_loopw [3, 4] (fun v i wr => ∃ k : Nat, k ≤ l.length ∧ i = .int .i64 k ∧ wr.ownsRow w.heap.size 46 3 v k (flat (l.take k)) ∧ Below w.heap.size w wr) (fun _ i _ => l.length - (intOf i).toNat)
  case atStart => exact ⟨0, Nat.zero_le _, rfl, World.ownsRow_nil _ _ _ _, Below.refl _ _⟩
  case round =>
    obtain ⟨k, hk, rfl, hrow, hb⟩ := hrel
    by_cases hlt : k < l.length
    · obtain ⟨b, off, rfl, hB, h0, h1, h2⟩ := ((HR.out).below hb).ent hlt
      have HF := Lib.hid (flat_step l k hlt)
      generalize l[k] = e at h0 h1 h2 HF
      obtain ⟨x, ct, sy⟩ := e
      have HROW := Lib.hid hrow; clear hrow
      have hbs := hb.size
      go_wp2_with (at_builtin; refine wpList_append_own _ rfl _ _ 42 rfl w.heap.size 46 i0 (.agg #[.string ⟨#[]⟩, .int .u8 0, .string ⟨#[]⟩]) 3 40 Tryz.underlying42 hi hz0 hz1 hz2 rfl (by decide) _ _ _ rfl ((HROW.out).alloc _) ⟨wr.heap.size, 0, none⟩ 1 1 [str x, byteV ct, str sy] rfl rfl ?a1 ?b1 ?c1 ?d1 ?e1 ?_)
      try (case a1 => exact three_new _ _ rfl _ _ _ _)
      case b1 => simp [Value.oneCell']
      case c1 => (unfold maxLen; omega)
      case d1 => omega
      case e1 => (first | omega | (simp; omega))
      intro v' w4 hown' hgrow _
      have HG := Lib.hid ((hb.alloc (by first | omega | (simp; omega)) (.cells #[str x, byteV ct, str sy] 46)).grown hgrow (by first | omega | (simp; omega)) (own_ge (HROW.out)))
      clear hgrow
      go_wp2_with fail
      go_roundw
      case rel => exact ⟨k + 1, by omega, by go_num, by rw [HF.out]; exact hown', HG.out⟩
      case measure => simp [intOf]; omega
    · obtain rfl : k = l.length := by omega
      rw [List.take_length] at hrow
      obtain ⟨A', c', rfl, hc, ho⟩ := own_out hrow
      have HO := Lib.hid ho
      clear hrow ho
      go_wp2_with fail
      go_ret
      exact ⟨A', c', rfl, hc, HO.out, hb⟩
set_option maxRecDepth 100000 in
set_option maxHeartbeats 1600000 in
theorem taken_any (l : List Ent) (A : Option Addr) (c : Nat) (w : World) (hl : l.length ≤ 1048576) (hr : Reads w w.heap.size 3 A l.length (flat l)) :
    Calls Tryz.prog 18 #[.slice A l.length c] w (RowPost 24 w l) := by
  have HR := Lib.hid hr; clear hr
  obtain ⟨i0, hi, hz0, hz1, hz2⟩ := info_parts infoEnt
  go_enter Tryz.func18, Tryz.ntmps18
  go_wp2_with fail
  go_loopw [3, 4] (fun v i wr => ∃ k : Nat, k ≤ l.length ∧ i = .int .i64 k ∧ wr.ownsRow w.heap.size 24 3 v k (flat (l.take k)) ∧ Below w.heap.size w wr) (fun _ i _ => l.length - (intOf i).toNat)
  case atStart => exact ⟨0, Nat.zero_le _, rfl, World.ownsRow_nil _ _ _ _, Below.refl _ _⟩
  case round =>
    obtain ⟨k, hk, rfl, hrow, hb⟩ := hrel
    by_cases hlt : k < l.length
    · obtain ⟨b, off, rfl, hB, h0, h1, h2⟩ := ((HR.out).below hb).ent hlt
      have HF := Lib.hid (flat_step l k hlt)
      generalize l[k] = e at h0 h1 h2 HF
      obtain ⟨x, ct, sy⟩ := e
      have HROW := Lib.hid hrow; clear hrow
      have hbs := hb.size
      go_wp2_with (at_builtin; refine wpList_append_own _ rfl _ _ 22 rfl w.heap.size 24 i0 (.agg #[.string ⟨#[]⟩, .int .u8 0, .string ⟨#[]⟩]) 3 40 Tryz.underlying22 hi hz0 hz1 hz2 rfl (by decide) _ _ _ rfl ((HROW.out).alloc _) ⟨wr.heap.size, 0, none⟩ 1 1 [str x, byteV ct, str sy] rfl rfl ?a1 ?b1 ?c1 ?d1 ?e1 ?_)
      try (case a1 => exact three_new _ _ rfl _ _ _ _)
      case b1 => simp [Value.oneCell']
      case c1 => (unfold maxLen; omega)
      case d1 => omega
      case e1 => (first | omega | (simp; omega))
      intro v' w4 hown' hgrow _
      have HG := Lib.hid ((hb.alloc (by first | omega | (simp; omega)) (.cells #[str x, byteV ct, str sy] 24)).grown hgrow (by first | omega | (simp; omega)) (own_ge (HROW.out)))
      clear hgrow
      go_wp2_with fail
      go_roundw
      case rel => exact ⟨k + 1, by omega, by go_num, by rw [HF.out]; exact hown', HG.out⟩
      case measure => simp [intOf]; omega
    · obtain rfl : k = l.length := by omega
      rw [List.take_length] at hrow
      obtain ⟨A', c', rfl, hc, ho⟩ := own_out hrow
      have HO := Lib.hid ho
      clear hrow ho
      go_wp2_with fail
      go_ret
      exact ⟨A', c', rfl, hc, HO.out, hb⟩
end Go.Proofs.YtbbgieopcmjoeaaGreatDoor
