/- lyceumlaw33.tells is true of every lexicon; WordsTells: the law's walk. -/
import Derived.Test.YtbbgieopcmjoeaaGreatDoorTellsW
namespace Go.Proofs.YtbbgieopcmjoeaaGreatDoor
open Go.RowKit
theorem addR_len (l : List Ent) (e : Ent) : (addR l e).1.length ≤ l.length + 1 := by
  unfold addR
  split
  · split
    · simp
    · split
      · simp
      · split
        · simp
        · simp; omega
  · simp
theorem removeR_len (l : List Ent) (tok : List UInt8) (ct : UInt8) : (removeR l tok ct).1.length ≤ l.length := by
  unfold removeR
  split
  · split
    · simp
    · simp; omega
  · simp
theorem lookR_len (l : List Ent) (tok : List UInt8) : (lookR l tok).1.length ≤ l.length := by
  unfold lookR
  split
  · exact formsK_len l tok _
  · simp
theorem tells_any (l : List Ent) (e : Ent) (tok : List UInt8) (A : Option Addr) (c : Nat) (w : World) (hl : l.length ≤ 1000) (hw : ∀ x ∈ l, x.1.length ≤ 1000 ∧ x.2.2.length ≤ 1000) (hx : e.1.length ≤ 1000 ∧ e.2.2.length ≤ 1000) (hr : Reads w w.heap.size 3 A l.length (flat l)) :
    Calls Tryz.prog 7 #[.slice A l.length c, entV e, str tok] w fun e w' => e = .returned (.bool true) ∧ Below w.heap.size w w' := by
  obtain ⟨ex, ec, esy⟩ := e
  obtain ⟨hx1, hx2⟩ := hx
  simp only at hx1 hx2
  have h1 := addR_len l (ex, ec, esy)
  have h2 := removeR_len l tok ec
  have h3 := lookR_len l tok
  have hw1 : ∀ x ∈ l, x.1.length ≤ 1048576 := fun x h => by have := (hw x h).1; omega
  have hw2 : ∀ x ∈ l, x.1.length ≤ 1048576 ∧ x.2.2.length ≤ 1048576 := fun x h => by have := hw x h; omega
  have hw3 : ∀ x ∈ l, x.1.length ≤ 140737488355328 := fun x h => by have := (hw x h).1; omega
  exact tells_core l (addR l (ex, ec, esy)).1 (removeR l tok ec).1 (lookR l tok).1 (addR l (ex, ec, esy)).2 (removeR l tok ec).2 (lookR l tok).2 (validL l) (rightL (ex, ec, esy)) ex ec esy tok A c w hl (by omega) (by omega) (by omega) hr
    (fun A c W hc hr => add_any l (ex, ec, esy) A c W (by omega) hw1 hc hr (show ex.length ≤ _ by omega))
    (fun A c W _ hr => radd_any l (ex, ec, esy) A c W (by omega) hw2 ⟨show ex.length ≤ _ by omega, show esy.length ≤ _ by omega⟩ hr)
    (fun A c W hc hr => remove_any l tok ec A c W (by omega) hw1 hc hr)
    (fun A c W _ hr => rremove_any l tok ec A c W (by omega) hw2 hr)
    (fun A c W hc hr => look_any l tok A c W hw1 hc hr)
    (fun A c W _ hr => rlook_any l tok A c W (by omega) hw2 hr)
    (fun A c W hc hr => valid_any l A c W hw3 hc hr)
    (fun A c W _ hr => rvalid_any l A c W (by omega) hw2 hr)
    (fun W => right_any ex ec esy W (by omega))
    (fun W => rright_any ex ec esy W (by omega) (by omega))
theorem tsmall_big {l : List Ent} (h : smallL l = true) : ∀ e ∈ l, e.1.length ≤ maxLen ∧ e.2.2.length ≤ maxLen := fun e he => by
  have := (small_each h).2 e he; unfold maxLen; omega
theorem tone_reads {W : World} {g : Nat} {x : List UInt8} {ct : UInt8} {sy : List UInt8} {t : TypeId} (h : Blk W g t #[str x, byteV ct, str sy]) : Reads W W.heap.size 3 (some ⟨g, 0, none⟩) ([(x, ct, sy)] : List Ent).length (flat [(x, ct, sy)]) := by
  refine ⟨rfl, fun _ => ⟨_, rfl, h.lt, fun j u hu => ?_⟩⟩
  have e : (⟨g, 0, none⟩ : Addr).add j = ⟨g, j, none⟩ := by unfold Addr.add; split <;> simp_all
  rw [e, h.cell j]
  simpa [flat, entCells] using hu
set_option maxRecDepth 100000 in
set_option maxHeartbeats 3200000 in
theorem wordsTells_any (l : List Ent) (e : Ent) (tok : List UInt8) (A : Option Addr) (c : Nat) (w : World) (hr : Reads w w.heap.size 3 A l.length (flat l)) (hs : ∀ e ∈ l, e.1.length ≤ maxLen ∧ e.2.2.length ≤ maxLen) (hx : e.1.length ≤ maxLen ∧ e.2.2.length ≤ maxLen) (ht : tok.length ≤ maxLen) :
    Calls Tryz.prog 3 #[.slice A l.length c, entV e, str tok] w fun e w' => e = .returned (.bool true) ∧ Below w.heap.size w w' := by
  obtain ⟨ex, ec, esy⟩ := e
  have HR := Lib.hid hr; clear hr
  have HS := Lib.hid hs; clear hs
  have HX : Hid (∀ x ∈ [(ex, ec, esy)], x.1.length ≤ maxLen ∧ x.2.2.length ≤ maxLen) := Lib.hid (fun x h => by obtain rfl := List.mem_singleton.1 h; exact hx)
  clear hx
  unfold maxLen at ht
  have hbox : Hid (∀ W : World, W = w.alloc (.cells #[str ex, byteV ec, str esy] 24) → Blk W w.heap.size 24 #[str ex, byteV ec, str esy] ∧ Below w.heap.size w W) := fun W h => by subst h; exact ⟨Blk.new _ _ _, (Below.refl _ _).alloc (Nat.le_refl _) _⟩
  cases hsm : smallL l
  · have HSM := Lib.hid hsm; clear hsm
    go_enter Tryz.func3, Tryz.ntmps3
    go_wp2_with fail
    obtain ⟨W1, hW1⟩ : ∃ W1 : World, W1 = w.alloc (.cells #[str ex, byteV ec, str esy] 24) := ⟨_, rfl⟩
    obtain ⟨hbk, hb1⟩ := hbox.out W1 hW1
    rw [← hW1]
    clear hW1
    go_at_call 6; refine (small_any l _ _ _ ((HR.out).later hb1) HS.out).mono ?_; rintro e w2 ⟨rfl, rfl⟩; rw [HSM.out]
    go_wp2_with fail
    go_at_call 8; refine (awake_any _).mono ?_; rintro e w1 ⟨rfl, hb2⟩
    go_wp2_with fail
    go_ret
    exact ⟨rfl, below_then hb1 hb2⟩
  · obtain ⟨hl1, hl2⟩ := small_each hsm
    have HE := Lib.hid hl2; clear hl2
    have HSM := Lib.hid hsm; clear hsm
    cases hs1 : smallL [(ex, ec, esy)]
    · have HS1 := Lib.hid hs1; clear hs1
      go_enter Tryz.func3, Tryz.ntmps3
      go_wp2_with fail
      obtain ⟨W1, hW1⟩ : ∃ W1 : World, W1 = w.alloc (.cells #[str ex, byteV ec, str esy] 24) := ⟨_, rfl⟩
      obtain ⟨hbk, hb1⟩ := hbox.out W1 hW1
      rw [← hW1]
      clear hW1
      go_at_call 6; refine (small_any l _ _ _ ((HR.out).later hb1) HS.out).mono ?_; rintro e w2 ⟨rfl, rfl⟩; rw [HSM.out]
      obtain ⟨k0, k1, k2⟩ := box_cellsT hbk
      go_wp2_with fail
      have hb3 : Below W1.heap.size W1 (W1.alloc (.cells #[str ex, byteV ec, str esy] 24)) := (Below.refl _ _).alloc (Nat.le_refl _) _
      have hbn := tone_reads (Blk.new W1 24 #[str ex, byteV ec, str esy])
      replace hb1 := below_then hb1 hb3
      clear k0 k1 k2 hb3
      refine (small_any [(ex, ec, esy)] _ 1 _ hbn HX.out).mono ?_; rintro e w2 ⟨rfl, hw2⟩; rw [HS1.out]
      rw [hw2] at hb1
      clear hw2 hbn
      go_wp2_with fail
      go_at_call 8; refine (awake_any _).mono ?_; rintro e w1 ⟨rfl, hb2⟩
      go_wp2_with fail
      go_ret
      exact ⟨rfl, below_then hb1 hb2⟩
    · have hE1 := (small_each hs1).2 _ (List.mem_singleton.2 rfl)
      have HE1 := Lib.hid hE1; clear hE1
      have HS1 := Lib.hid hs1; clear hs1
      have HT := Lib.hid (fun W hr => tells_any l (ex, ec, esy) tok A c W (by omega) (fun x h => by have := HE.out x h; omega) ⟨by have := HE1.out.1; simp only at this ⊢; omega, by have := HE1.out.2; simp only at this ⊢; omega⟩ hr)
      by_cases h40 : tok.length ≤ 40
      all_goals
        go_enter Tryz.func3, Tryz.ntmps3
        go_wp2_with fail
        obtain ⟨W1, hW1⟩ : ∃ W1 : World, W1 = w.alloc (.cells #[str ex, byteV ec, str esy] 24) := ⟨_, rfl⟩
        obtain ⟨hbk, hb1⟩ := hbox.out W1 hW1
        rw [← hW1]
        clear hW1
        go_at_call 6; refine (small_any l _ _ _ ((HR.out).later hb1) HS.out).mono ?_; rintro e w2 ⟨rfl, rfl⟩; rw [HSM.out]
        obtain ⟨k0, k1, k2⟩ := box_cellsT hbk
        go_wp2_with fail
        have hb3 : Below W1.heap.size W1 (W1.alloc (.cells #[str ex, byteV ec, str esy] 24)) := (Below.refl _ _).alloc (Nat.le_refl _) _
        have hbn := tone_reads (Blk.new W1 24 #[str ex, byteV ec, str esy])
        replace hbk := hbk.later hb3
        replace hb1 := below_then hb1 hb3
        clear k0 k1 k2 hb3
        refine (small_any [(ex, ec, esy)] _ 1 _ hbn HX.out).mono ?_; rintro e w2 ⟨rfl, hw2⟩; rw [HS1.out]
        rw [hw2] at hb1 hbk
        clear hw2 hbn
        obtain ⟨k0, k1, k2⟩ := box_cellsT hbk
        go_wp2_with fail
        first
        | (go_at_call 7; refine ((HT.out) _ ((HR.out).later hb1)).mono ?_; rintro e w5 ⟨rfl, hb5⟩
           replace hb1 := below_then hb1 hb5
           clear k0 k1 k2
           go_wp2_with fail
           go_at_call 8; refine (awake_any _).mono ?_; rintro e w1 ⟨rfl, hb2⟩
           go_wp2_with fail
           go_ret
           exact ⟨rfl, below_then hb1 hb2⟩)
        | (go_at_call 8; refine (awake_any _).mono ?_; rintro e w1 ⟨rfl, hb2⟩
           go_wp2_with fail
           go_ret
           exact ⟨rfl, below_then hb1 hb2⟩)
end Go.Proofs.YtbbgieopcmjoeaaGreatDoor
