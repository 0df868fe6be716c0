/- What the frames of the laws share: arguments that are slices of entries, of strings, of bytes. -/
import Derived.Test.YtbbgieopcmjoeaaGreatDoorFrame
import Derived.Test.YtbbgieopcmjoeaaGreatDoorOrder
import Derived.Deep.Slices
import Derived.Deep.Fields
import Derived.ChangeSame
import Derived.SliceStrings
import Derived.OpenShut
namespace Go.Proofs.YtbbgieopcmjoeaaGreatDoor
open Go.ChangeShapes Go.WideShapes Go.Deep Go.RowKit Go.ChangeMaps
theorem cell_lt {W : World} {p : Addr} {u : Value} (h : W.cell? p = some u) : p.block < W.heap.size := by
  rcases Nat.lt_or_ge p.block W.heap.size with h1 | h1
  · exact h1
  · unfold World.cell? at h
    rw [Array.getElem?_eq_none h1] at h
    simp at h
noncomputable def entFields : Array Field := ((Tryz.prog.underlying 24).bind fun d => match d with | .struct fs => some fs | _ => none).getD #[]
set_option maxRecDepth 100000 in
theorem open_ents {H : Type} {enc : TypeId × Value → H} {W : World} {base : Nat} {v : Value} {d : DataW H} {p : List MemPlace} (hval : Value.okWide Tryz.prog W .any base 22 v)
    (h : DataW.Trod enc Tryz.prog W 0 (fun _ => true) true 22 v d p) :
    ∃ (A : Option Addr) (l : List Ent) (c : Nat), v = .slice A l.length c ∧ l.length ≤ c ∧ c ≤ maxLen ∧ Reads W W.heap.size 3 A l.length (flat l) ∧ ∀ e ∈ l, e.1.length ≤ maxLen ∧ e.2.2.length ≤ maxLen := by
  obtain ⟨a0, len0, cap0, rfl⟩ := okWide_slice Tryz.underlying22 hval
  obtain ⟨fuel, hf⟩ := h
  rcases open_slice Tryz.underlying22 hf with ⟨hcs, _⟩ | ⟨a, len, cap, m, n, D, Pl, hcs, _, hl, hm, hmm, hx, hel⟩
  · simp [Value.cells] at hcs
    obtain ⟨rfl, rfl, rfl⟩ := hcs
    exact ⟨none, [], 0, rfl, Nat.le_refl _, Nat.zero_le _, Reads.none_, fun e he => by cases he⟩
  · simp [Value.cells] at hcs
    obtain ⟨rfl, rfl, rfl⟩ := hcs
    simp only [if_true] at hmm
    subst hmm
    have hC : Tryz.prog.cellsOf 24 = 3 := by kernel_rfl
    have h3 : entFields.size = 3 := by kernel_rfl
    have hE : Tryz.prog.underlying 24 = some (.struct entFields) := by kernel_rfl
    have f0 : (entFields[0]?).map (fun f => (f.type, f.offset)) = some (9, 0) := by kernel_rfl
    have f1 : (entFields[1]?).map (fun f => (f.type, f.offset)) = some (5, 1) := by kernel_rfl
    have f2 : (entFields[2]?).map (fun f => (f.type, f.offset)) = some (9, 2) := by kernel_rfl
    have k0 : Tryz.prog.cellsOf 9 = 1 := by kernel_rfl
    have k1 : Tryz.prog.cellsOf 5 = 1 := by kernel_rfl
    have key : ∀ k, k ≤ len0 → ∃ l : List Ent, l.length = k ∧ (∀ e ∈ l, e.1.length ≤ maxLen ∧ e.2.2.length ≤ maxLen) ∧ ∀ j u, (flat l)[j]? = some u → W.cell? (a.add j) = some u := by
      intro k
      induction k with
      | zero => exact fun _ => ⟨[], rfl, fun e he => (by cases he), fun j u hu => (by simp [flat] at hu)⟩
      | succ k ih =>
        intro hk
        obtain ⟨l, hl1, hl2, hl3⟩ := ih (by omega)
        obtain ⟨cs, hc, htr⟩ := hel k (by omega)
        rw [hC] at hc
        obtain ⟨ys, n', _, _, _, hyl, hj⟩ := DataW.trod_struct hE htr
        rw [h3] at hyl
        obtain ⟨_, hcl, hat⟩ := World.cells?_some hc
        obtain ⟨g0, hg0, ht0⟩ := Option.map_eq_some_iff.1 f0
        obtain ⟨g1, hg1, ht1⟩ := Option.map_eq_some_iff.1 f1
        obtain ⟨g2, hg2, ht2⟩ := Option.map_eq_some_iff.1 f2
        obtain ⟨v0, v1, v2, rfl⟩ : ∃ v0 v1 v2, cs = [v0, v1, v2] := by
          match cs, hcl with
          | [x, y, z], _ => exact ⟨x, y, z, rfl⟩
        have r0 := hj 0 g0 hg0
        have r1 := hj 1 g1 hg1
        have r2 := hj 2 g2 hg2
        rw [(Prod.mk.inj ht0).1, (Prod.mk.inj ht0).2, k0] at r0
        rw [(Prod.mk.inj ht1).1, (Prod.mk.inj ht1).2, k1] at r1
        rw [(Prod.mk.inj ht2).1, (Prod.mk.inj ht2).2, k0] at r2
        have r0 := r0.trans (List.getElem?_eq_getElem (by omega))
        have r1 := r1.trans (List.getElem?_eq_getElem (by omega))
        have r2 := r2.trans (List.getElem?_eq_getElem (by omega))
        have c0 := hat 0 (by omega)
        have c1 := hat 1 (by omega)
        have c2 := hat 2 (by omega)
        rw [add_of_add] at c0 c1 c2
        obtain ⟨s0, q0, _, z0⟩ := DataW.trod_string Tryz.underlying9 r0
        obtain ⟨n1, q1, _, z1⟩ := DataW.trod_int Tryz.underlying5 r1
        obtain ⟨s2, q2, _, z2⟩ := DataW.trod_string Tryz.underlying9 r2
        obtain rfl : v0 = .string s0 := by simpa using q0
        obtain rfl : v1 = .int .u8 n1 := by simpa using q1
        obtain rfl : v2 = .string s2 := by simpa using q2
        have hn : 0 ≤ n1 ∧ n1 < 256 := by simp [Lit.wf, IntKind.min, IntKind.max, IntKind.bits, IntKind.signed] at z1; omega
        have hb : ((UInt8.ofNat n1.toNat).toNat : Int) = n1 := by simp; omega
        refine ⟨l ++ [(s0.data.toList, UInt8.ofNat n1.toNat, s2.data.toList)], by simp [hl1], fun e he => ?_, fun j u hu => ?_⟩
        · rcases List.mem_append.1 he with he | he
          · exact hl2 e he
          · obtain rfl := List.mem_singleton.1 he
            exact ⟨z0, z2⟩
        · have e1 : flat (l ++ [(s0.data.toList, UInt8.ofNat n1.toNat, s2.data.toList)]) = flat l ++ [.string s0, .int .u8 n1, .string s2] := by
            simp only [flat, List.flatMap_append, List.flatMap_cons, List.flatMap_nil, List.append_nil, entCells, byteV, hb]
          rw [e1, List.getElem?_append, flat_length, hl1] at hu
          split at hu
          · exact hl3 j u hu
          · rename_i hge
            rcases hd : j - k * 3 with _ | _ | _ | i
            · rw [hd] at hu
              obtain rfl : Value.string s0 = u := by simpa using hu
              have : j = k * 3 + 0 := by omega
              rw [this]; exact c0
            · rw [hd] at hu
              obtain rfl : Value.int .u8 n1 = u := by simpa using hu
              have : j = k * 3 + 1 := by omega
              rw [this]; exact c1
            · rw [hd] at hu
              obtain rfl : Value.string s2 = u := by simpa using hu
              have : j = k * 3 + 2 := by omega
              rw [this]; exact c2
            · rw [hd] at hu; simp at hu
    obtain ⟨l, rfl, hl2, hl3⟩ := key len0 (Nat.le_refl _)
    refine ⟨some a, l, m, rfl, hl, hm, ⟨by rw [flat_length], fun h0 => ⟨a, rfl, ?_, hl3⟩⟩, hl2⟩
    have := cell_lt (hl3 0 _ (List.getElem?_eq_getElem (by rw [flat_length]; omega)))
    rwa [block_of_add] at this
end Go.Proofs.YtbbgieopcmjoeaaGreatDoor
