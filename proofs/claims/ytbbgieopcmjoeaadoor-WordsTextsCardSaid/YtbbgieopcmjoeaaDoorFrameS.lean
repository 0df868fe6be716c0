/- What the frames of the laws share: arguments that are slices of strings, of bytes. -/
import Derived.Test.YtbbgieopcmjoeaaDoorFrame
import Derived.Test.YtbbgieopcmjoeaaDoorWords1
import Derived.Deep.Slices
import Derived.Deep.Fields
import Derived.ChangeSame
import Derived.SliceStrings
import Derived.OpenShut
namespace Go.Proofs.YtbbgieopcmjoeaaDoor
open Go.ChangeShapes Go.WideShapes Go.Deep Go.RowKit Go.ChangeMaps
theorem cell_ltS {W : World} {p : Addr} {u : Value} (h : W.cell? p = some u) : p.block < W.heap.size := by
  rcases Nat.lt_or_ge p.block W.heap.size with h1 | h1
  · exact h1
  · unfold World.cell? at h
    rw [Array.getElem?_eq_none h1] at h
    simp at h
set_option maxRecDepth 100000 in
theorem open_ones {H : Type} {enc : TypeId × Value → H} {W : World} {base : Nat} {T E : TypeId} (hT : Tryd.prog.underlying T = some (.slice E)) (hC : Tryd.prog.cellsOf E = 1) {α : Type} (f : α → Value) (Q : α → Prop)
    (hone : ∀ (fuel : Nat) (v : Value) (x : DataW H × List MemPlace), DataW.trod enc Tryd.prog W 0 (fun _ => true) true fuel E [v] = some x → ∃ b, v = f b ∧ Q b)
    {v : Value} {d : DataW H} {p : List MemPlace} (hval : Value.okWide Tryd.prog W .any base T v)
    (h : DataW.Trod enc Tryd.prog W 0 (fun _ => true) true T v d p) :
    ∃ (A : Option Addr) (l : List α) (c : Nat), v = .slice A l.length c ∧ l.length ≤ c ∧ c ≤ maxLen ∧ Reads W W.heap.size 1 A l.length (l.map f) ∧ (∀ b ∈ l, Q b) ∧ (c = 0 ∨ ∃ el sp : List (DataW H), d = .slice el sp ∧ el.length + sp.length = c) := by
  obtain ⟨a0, len0, cap0, rfl⟩ := okWide_slice hT hval
  obtain ⟨fuel, hf⟩ := h
  rcases open_slice hT hf with ⟨hcs, _⟩ | ⟨a, len, cap, m, n, D, Pl, hcs, _, hl, hm, hmm, hx, hel⟩
  · simp [Value.cells] at hcs
    obtain ⟨rfl, rfl, rfl⟩ := hcs
    exact ⟨none, [], 0, rfl, Nat.le_refl _, Nat.zero_le _, Reads.none_, fun b hb => (by cases hb), .inl rfl⟩
  · simp [Value.cells] at hcs
    obtain ⟨rfl, rfl, rfl⟩ := hcs
    simp only [if_true] at hmm
    subst hmm
    have key : ∀ k, k ≤ len0 → ∃ l : List α, l.length = k ∧ (∀ b ∈ l, Q b) ∧ ∀ j u, (l.map f)[j]? = some u → W.cell? (a.add j) = some u := by
      intro k
      induction k with
      | zero => exact fun _ => ⟨[], rfl, fun b hb => (by cases hb), fun j u hu => (by simp at hu)⟩
      | succ k ih =>
        intro hk
        obtain ⟨l, hl1, hl2, hl3⟩ := ih (by omega)
        obtain ⟨cs, hc, htr⟩ := hel k (by omega)
        rw [hC] at hc
        obtain ⟨_, hcl, hat⟩ := World.cells?_some hc
        obtain ⟨v0, rfl⟩ : ∃ v0, cs = [v0] := by
          match cs, hcl with
          | [x], _ => exact ⟨x, rfl⟩
        have c0 := hat 0 (by omega)
        rw [add_of_add] at c0
        obtain ⟨b, rfl, hq⟩ := hone _ _ _ htr
        refine ⟨l ++ [b], by simp [hl1], fun x hx => ?_, fun j u hu => ?_⟩
        · rcases List.mem_append.1 hx with hx | hx
          · exact hl2 x hx
          · obtain rfl := List.mem_singleton.1 hx
            exact hq
        · rw [List.map_append, List.getElem?_append, List.length_map, hl1] at hu
          split at hu
          · exact hl3 j u hu
          · rename_i hge
            rcases hd : j - k with _ | i
            · rw [hd] at hu
              obtain rfl : f b = u := by simpa using hu
              have : j = k * 1 + 0 := by omega
              rw [this]; exact c0
            · rw [hd] at hu; simp at hu
    obtain ⟨l, rfl, hl2, hl3⟩ := key len0 (Nat.le_refl _)
    refine ⟨some a, l, m, rfl, hl, hm, ⟨by simp, fun h0 => ⟨a, rfl, ?_, hl3⟩⟩, hl2, .inr ⟨_, _, (Prod.mk.inj hx).1, by simp; omega⟩⟩
    have := cell_ltS (hl3 0 (f l[0]) (by simp [h0]))
    rwa [block_of_add] at this
set_option maxRecDepth 100000 in
theorem open_strs {H : Type} {enc : TypeId × Value → H} {W : World} {base : Nat} {v : Value} {d : DataW H} {p : List MemPlace} (hval : Value.okWide Tryd.prog W .any base 24 v)
    (h : DataW.Trod enc Tryd.prog W 0 (fun _ => true) true 24 v d p) :
    ∃ (A : Option Addr) (l : List (List UInt8)) (c : Nat), v = .slice A l.length c ∧ l.length ≤ c ∧ c ≤ maxLen ∧ Reads W W.heap.size 1 A l.length (l.map str) ∧ (∀ t ∈ l, t.length ≤ maxLen) ∧ (c = 0 ∨ ∃ el sp : List (DataW H), d = .slice el sp ∧ el.length + sp.length = c) :=
  open_ones Tryd.underlying24 (by kernel_rfl) str (fun t => t.length ≤ maxLen) (fun fuel v x htr => by
    obtain ⟨s0, q0, _, z0⟩ := DataW.trod_string Tryd.underlying9 htr
    obtain rfl : v = .string s0 := by simpa using q0
    exact ⟨s0.data.toList, rfl, z0⟩) hval h
set_option maxRecDepth 100000 in
theorem open_u8s {H : Type} {enc : TypeId × Value → H} {W : World} {base : Nat} {v : Value} {d : DataW H} {p : List MemPlace} (hval : Value.okWide Tryd.prog W .any base 47 v)
    (h : DataW.Trod enc Tryd.prog W 0 (fun _ => true) true 47 v d p) :
    ∃ (A : Option Addr) (l : List UInt8) (c : Nat), v = .slice A l.length c ∧ l.length ≤ c ∧ c ≤ maxLen ∧ Reads W W.heap.size 1 A l.length (l.map byteV) ∧ (∀ t ∈ l, True) ∧ (c = 0 ∨ ∃ el sp : List (DataW H), d = .slice el sp ∧ el.length + sp.length = c) :=
  open_ones Tryd.underlying47 (by kernel_rfl) byteV (fun _ => True) (fun fuel v x htr => by
    obtain ⟨n1, q1, _, z1⟩ := DataW.trod_int Tryd.underlying5 htr
    obtain rfl : v = .int .u8 n1 := by simpa using q1
    have hn : 0 ≤ n1 ∧ n1 < 256 := by simp [Lit.wf, IntKind.min, IntKind.max, IntKind.bits, IntKind.signed] at z1; omega
    have hb : ((UInt8.ofNat n1.toNat).toNat : Int) = n1 := by simp; omega
    exact ⟨UInt8.ofNat n1.toNat, by rw [byteV, hb], trivial⟩) hval h
end Go.Proofs.YtbbgieopcmjoeaaDoor
