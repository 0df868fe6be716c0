/- package words: the order of entries; what an entry's place in a lexicon asks. -/
import Derived.Test.YtbbgieopcmjoeaaGreatDoorClash
import Derived.Test.YtbbgieopcmjoeaaGreatDoorShelf
namespace Go.Proofs.YtbbgieopcmjoeaaGreatDoor
open Go.RowKit
def cmpL (a b : Ent) : Int := if a.1 == b.1 then (a.2.1.toNat : Int) - (b.2.1.toNat : Int) else Lib.compareBytes a.1 b.1
set_option maxRecDepth 100000 in
theorem compare_any (a b : Ent) (w : World) :
    Calls Tryz.prog 41 #[entV a, entV b] w fun e w' => e = .returned (.int .i64 (cmpL a b)) ∧ Below w.heap.size w w' := by
  obtain ⟨ax, ac, asy⟩ := a
  obtain ⟨bx, bc, bsy⟩ := b
  have hB := ((Below.refl w.heap.size w).alloc (Nat.le_refl _) (.cells #[str ax, byteV ac, str asy] 24)).alloc (by simp) (.cells #[str bx, byteV bc, str bsy] 24)
  have ha : (ac.toNat : Int) < 256 := by have := ac.toNat_lt; omega
  have hb : (bc.toNat : Int) < 256 := by have := bc.toNat_lt; omega
  cases hx : (ax == bx)
  · have HX : Hid (cmpL (ax, ac, asy) (bx, bc, bsy) = Lib.compareBytes ax bx) := by unfold cmpL; simp only [hx]; rfl
    go_enter Tryz.func41, Tryz.ntmps41
    go_wp2_with (go_at_call 73; refine (Tryz.strings_Compare ⟨ax.toArray⟩ ⟨bx.toArray⟩ _).mono ?_; rintro e w' ⟨rfl, rfl⟩)
    go_ret
    exact ⟨by rw [HX.out]; rfl, hB⟩
  · have HX : Hid (cmpL (ax, ac, asy) (bx, bc, bsy) = (ac.toNat : Int) - (bc.toNat : Int)) := by unfold cmpL; simp only [hx]; rfl
    go_enter Tryz.func41, Tryz.ntmps41
    go_wp2_with fail
    go_ret
    exact ⟨by rw [HX.out]; rfl, hB⟩
/-- The cells of a lexicon. -/
def flat (l : List Ent) : List Value := l.flatMap entCells
theorem flat_length (l : List Ent) : (flat l).length = l.length * 3 := by
  induction l with
  | nil => rfl
  | cons e l ih => simp only [flat, List.flatMap_cons, List.length_append] at *; rw [ih]; simp; omega
theorem flat_get (l : List Ent) : ∀ (i : Nat) (hi : i < l.length), (flat l)[i * 3]? = some (str l[i].1) ∧ (flat l)[i * 3 + 1]? = some (byteV l[i].2.1) ∧ (flat l)[i * 3 + 2]? = some (str l[i].2.2) := by
  induction l with
  | nil => intro i hi; simp at hi
  | cons e l ih =>
    intro i hi
    cases i with
    | zero => exact ⟨rfl, rfl, rfl⟩
    | succ i =>
      have h := ih i (by simpa using hi)
      have e0 : (i + 1) * 3 = i * 3 + 3 := by omega
      have e1 : ∀ j, (flat (e :: l))[j + 3]? = (flat l)[j]? := fun j => by
        show (entCells e ++ flat l)[j + 3]? = _
        rw [List.getElem?_append_right (by simp)]; simp
      refine ⟨?_, ?_, ?_⟩
      · rw [e0, e1]; exact h.1
      · rw [e0, show i * 3 + 3 + 1 = i * 3 + 1 + 3 from by omega, e1]; exact h.2.1
      · rw [e0, show i * 3 + 3 + 2 = i * 3 + 2 + 3 from by omega, e1]; exact h.2.2
theorem flat_arg (l : List Ent) (i : Nat) (hi : i < l.length) : argE (flat l) i = entV l[i] := by
  obtain ⟨h0, h1, h2⟩ := flat_get l i hi
  simp [argE, h0, h1, h2]
theorem flat_take (l : List Ent) : ∀ k, (flat l).take (k * 3) = flat (l.take k) := by
  induction l with
  | nil => intro k; simp [flat]
  | cons e l ih =>
    intro k
    cases k with
    | zero => simp [flat]
    | succ k =>
      have e0 : (k + 1) * 3 = k * 3 + 1 + 1 + 1 := by omega
      show (entCells e ++ flat l).take _ = entCells e ++ flat (l.take k)
      rw [← ih k, e0]
      rfl
end Go.Proofs.YtbbgieopcmjoeaaGreatDoor
