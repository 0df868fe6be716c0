/- An entry by value among a law's arguments. -/
import Derived.Test.YtbbgieopcmjoeaaGreatDoorFrameE
namespace Go.Proofs.YtbbgieopcmjoeaaGreatDoor
open Go.ChangeShapes Go.WideShapes Go.Deep Go.RowKit Go.ChangeMaps
set_option maxRecDepth 100000 in
theorem open_ent {H : Type} {enc : TypeId × Value → H} {W : World} {base : Nat} {v : Value} {d : DataW H} {p : List MemPlace} (hval : Value.okWide Tryz.prog W .any base 24 v)
    (h : DataW.Trod enc Tryz.prog W 0 (fun _ => true) true 24 v d p) :
    ∃ e : Ent, v = entV e ∧ e.1.length ≤ maxLen ∧ e.2.2.length ≤ maxLen := by
  have hC : Tryz.prog.cellsOf 24 = 3 := by kernel_rfl
  have h3 : entFields.size = 3 := by kernel_rfl
  have hE : Tryz.prog.underlying 24 = some (.struct entFields) := by kernel_rfl
  have f0 : (entFields[0]?).map (fun f => (f.type, f.offset)) = some (9, 0) := by kernel_rfl
  have f1 : (entFields[1]?).map (fun f => (f.type, f.offset)) = some (5, 1) := by kernel_rfl
  have f2 : (entFields[2]?).map (fun f => (f.type, f.offset)) = some (9, 2) := by kernel_rfl
  have k0 : Tryz.prog.cellsOf 9 = 1 := by kernel_rfl
  have k1 : Tryz.prog.cellsOf 5 = 1 := by kernel_rfl
  obtain ⟨ca, rfl, hsz⟩ := okWide_struct hE hval
  obtain ⟨fuel, htr0⟩ := h
  obtain ⟨cs⟩ := ca
  have htr : DataW.trod enc Tryz.prog W 0 (fun _ => true) true fuel 24 cs = some (d, p) := htr0
  have hcl : cs.length = 3 := by rw [← hC]; simpa using hsz
  obtain ⟨ys, n', _, _, _, hyl, hj⟩ := DataW.trod_struct hE htr
  rw [h3] at hyl
  obtain ⟨g0, hg0, ht0⟩ := Option.map_eq_some_iff.1 f0
  obtain ⟨g1, hg1, ht1⟩ := Option.map_eq_some_iff.1 f1
  obtain ⟨g2, hg2, ht2⟩ := Option.map_eq_some_iff.1 f2
  obtain ⟨v0, v1, v2, rfl⟩ : ∃ v0 v1 v2, cs = [v0, v1, v2] := by
    match cs, hcl with
    | [x, y, z], _ => exact ⟨x, y, z, rfl⟩
  have r0 := hj 0 g0 hg0
  have r1 := hj 1 g1 hg1
  have r2 := hj 2 g2 hg2
  rw [(Prod.mk.inj ht0).1, (Prod.mk.inj ht0).2, k0] at r0
  rw [(Prod.mk.inj ht1).1, (Prod.mk.inj ht1).2, k1] at r1
  rw [(Prod.mk.inj ht2).1, (Prod.mk.inj ht2).2, k0] at r2
  have r0 := r0.trans (List.getElem?_eq_getElem (by omega))
  have r1 := r1.trans (List.getElem?_eq_getElem (by omega))
  have r2 := r2.trans (List.getElem?_eq_getElem (by omega))
  obtain ⟨s0, q0, _, z0⟩ := DataW.trod_string Tryz.underlying9 r0
  obtain ⟨n1, q1, _, z1⟩ := DataW.trod_int Tryz.underlying5 r1
  obtain ⟨s2, q2, _, z2⟩ := DataW.trod_string Tryz.underlying9 r2
  obtain rfl : v0 = .string s0 := by simpa using q0
  obtain rfl : v1 = .int .u8 n1 := by simpa using q1
  obtain rfl : v2 = .string s2 := by simpa using q2
  have hn : 0 ≤ n1 ∧ n1 < 256 := by simp [Lit.wf, IntKind.min, IntKind.max, IntKind.bits, IntKind.signed] at z1; omega
  have hb : ((UInt8.ofNat n1.toNat).toNat : Int) = n1 := by simp; omega
  refine ⟨(s0.data.toList, UInt8.ofNat n1.toNat, s2.data.toList), ?_, z0, z2⟩
  show Value.agg #[.string s0, .int .u8 n1, .string s2] = Value.agg #[str s0.data.toList, byteV (UInt8.ofNat n1.toNat), str s2.data.toList]
  unfold byteV
  rw [hb]
end Go.Proofs.YtbbgieopcmjoeaaGreatDoor
