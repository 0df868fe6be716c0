/- Maps that the call makes, entry by entry, whatever their elements are: what is in them is known, and so each look-up's answer. -/
import Derived.Test.YtbbgieopcmjoeaaGreatDoorBase
import Derived.MapKept
import Derived.ChangeMaps4
import Derived.Carry
namespace Go.Proofs.YtbbgieopcmjoeaaGreatDoor
open Go.RowKit Go.ChangeMaps
def esFrom {κ : Type} (kf : κ → Value) : Nat → List (κ × Value) → List MapEntry
  | _, [] => []
  | n, p :: r => ⟨kf p.1, p.2, n⟩ :: esFrom kf (n + 1) r
theorem esFrom_snoc {κ : Type} (kf : κ → Value) (a : κ) (v : Value) : ∀ (es : List (κ × Value)) (n : Nat), esFrom kf n (es ++ [(a, v)]) = esFrom kf n es ++ [⟨kf a, v, n + es.length⟩]
  | [], n => by simp [esFrom]
  | p :: r, n => by simp [esFrom, esFrom_snoc kf a v r (n + 1)]; omega
theorem esFrom_length {κ : Type} (kf : κ → Value) : ∀ (es : List (κ × Value)) (n : Nat), (esFrom kf n es).length = es.length
  | [], n => rfl
  | p :: r, n => by simp [esFrom, esFrom_length kf r (n + 1)]
def assoc {κ : Type} [DecidableEq κ] (a : κ) : List (κ × Value) → Option Value
  | [] => none
  | p :: r => if a = p.1 then some p.2 else assoc a r
/-- The keys are told apart by the model as they are told apart as data. -/
def Same {κ : Type} [DecidableEq κ] (kind : TypeDesc) (kf : κ → Value) : Prop := ∀ a b, Instr.sameNow kind (kf a) (kf b) = some (decide (a = b))
theorem find_some {κ : Type} [DecidableEq κ] {kind : TypeDesc} {kf : κ → Value} (hs : Same kind kf) (a : κ) : ∀ (es : List (κ × Value)) (n i : Nat),
    ∃ r, Instr.findNow kind (kf a) (esFrom kf n es) i = some r ∧ r.map (·.2) = assoc a es
  | [], n, i => ⟨none, rfl, rfl⟩
  | p :: r, n, i => by
    simp only [esFrom, Instr.findNow, hs a p.1, assoc]
    by_cases h : a = p.1
    · exact ⟨_, by simp only [h, decide_true]; rfl, by simp [h]⟩
    · obtain ⟨x, h1, h2⟩ := find_some hs a r (n + 1) (i + 1)
      exact ⟨x, by simp [h, h1], by simp [h, h2]⟩
theorem find_none {κ : Type} [DecidableEq κ] {kind : TypeDesc} {kf : κ → Value} (hs : Same kind kf) (a : κ) (es : List (κ × Value)) (n i : Nat) (h : assoc a es = none) : Instr.findNow kind (kf a) (esFrom kf n es) i = some none := by
  obtain ⟨r, h1, h2⟩ := find_some hs a es n i
  rw [h] at h2
  cases r with
  | none => exact h1
  | some x => cases h2
/-- Block b is a map whose entries are known. -/
def MapIs {κ : Type} (w : World) (b : Nat) (kf : κ → Value) (es : List (κ × Value)) : Prop := w.heap[b]? = some (.map (esFrom kf 0 es).toArray es.length)
theorem MapIs.lt {κ : Type} {w : World} {b : Nat} {kf : κ → Value} {es : List (κ × Value)} (h : MapIs w b kf es) : b < w.heap.size := (Array.getElem?_eq_some_iff.1 h).1
theorem MapIs.below {κ : Type} {w w' : World} {b B : Nat} {kf : κ → Value} {es : List (κ × Value)} (h : MapIs w b kf es) (hb : Below B w w') (hB : b < B) : MapIs w' b kf es := (hb.block b hB).trans h
theorem MapIs.later {κ : Type} {w w' : World} {b : Nat} {kf : κ → Value} {es : List (κ × Value)} (h : MapIs w b kf es) (hb : Below w.heap.size w w') : MapIs w' b kf es := h.below hb h.lt
theorem MapIs.alloc {κ : Type} {w : World} {b : Nat} {kf : κ → Value} {es : List (κ × Value)} (h : MapIs w b kf es) (o : Obj) : MapIs (w.alloc o) b kf es := (Below.heap_alloc w o b h.lt).trans h
theorem MapIs.new {κ : Type} (w : World) (kf : κ → Value) : MapIs (w.alloc (.map #[] 0)) w.heap.size kf [] := (MapKept.heap_alloc w _).1
section
variable {κ : Type} [DecidableEq κ] {P : Program} {kT eT mT : TypeId} {kind : TypeDesc} {kf : κ → Value} {w : World} {b : Nat} {es : List (κ × Value)}
theorem run_lookup_is (hm : P.underlying mT = some (.map kT eT)) (hk : P.underlying kT = some kind) (hs : Same kind kf) (hc : ∀ em a w, (Instr.checkKey em 10000 kT (kf a)).run P w = .ok () w)
    (h : MapIs w b kf es) (a : κ) {z : Value} (hz : (zeroValue eT).run P w = .ok z w) : (Instr.lookup mT (.map (some b)) (kf a) false).run P w = .ok ((assoc a es).getD z) w := by
  obtain ⟨r, h1, h2⟩ := find_some hs a es 0 0
  rw [← h2]
  have hg := MapKept.run_getObj_map (P := P) h
  cases r with
  | none => simp [Instr.lookup, run_underlying hm, hg, hc, Instr.findKey, run_underlying hk, h1, hz, Result.andThen]
  | some x => simp [Instr.lookup, run_underlying hm, hg, hc, Instr.findKey, run_underlying hk, h1, Result.andThen]
theorem run_update_new (hm : P.underlying mT = some (.map kT eT)) (hk : P.underlying kT = some kind) (hs : Same kind kf) (hc : ∀ em a w, (Instr.checkKey em 10000 kT (kf a)).run P w = .ok () w)
    (h : MapIs w b kf es) (a : κ) (v : Value) (hn : assoc a es = none) :
    ∃ w', (Instr.mapUpdate mT (.map (some b)) (kf a) v).run P w = .ok () w' ∧ MapIs w' b kf (es ++ [(a, v)]) ∧ w.grownBy w' (some b) := by
  have h1 := find_none hs a es 0 0 hn
  have hg := MapKept.run_getObj_map (P := P) h
  have hst := fun o => MapKept.run_setObj_map (P := P) o h
  have hlt := h.lt
  refine ⟨setBlock w b (.map ((esFrom kf 0 es).toArray.push ⟨kf a, v, es.length⟩) (es.length + 1)), ?_, ?_, ?_⟩
  · simp [Instr.mapUpdate, run_underlying hm, hg, hc, Instr.findKey, run_underlying hk, h1, hst, Result.andThen, setBlock]
  · show (setBlock w b _).heap[b]? = _
    simp [setBlock, hlt, esFrom_snoc]
  · exact ⟨rfl, rfl, rfl, by simp [setBlock], fun i _ hi => heap_setBlock_other h _ (fun e => hi (by rw [e]))⟩
end
theorem same_str : Same (κ := List UInt8) .string (fun l => str l) := fun a b => by
  show some (_ == _) = _
  congr 1
  rw [Bool.eq_iff_iff, MapKept.bytes_beq]
  simp
theorem check_str {P : Program} {t : TypeId} (ht : P.underlying t = some .string) (em : Bool) (a : List UInt8) (w : World) : (Instr.checkKey em 10000 t (str a)).run P w = .ok () w :=
  MapKept.run_checkKey ht (by trivial) em 9999
theorem same_u8 : Same (κ := Nat) (.int .u8) (fun n => .int .u8 (n : Int)) := fun a b => by
  simp only [Instr.sameNow, if_pos]
  congr 1
  rw [Bool.eq_iff_iff]
  simp only [beq_iff_eq, decide_eq_true_eq]
  omega
theorem check_u8 {P : Program} {t : TypeId} (ht : P.underlying t = some (.int .u8)) (em : Bool) (a : Nat) (w : World) : (Instr.checkKey em 10000 t (.int .u8 (a : Int))).run P w = .ok () w :=
  MapKept.run_checkKey ht (by first | trivial | rfl) em 9999
end Go.Proofs.YtbbgieopcmjoeaaGreatDoor
