/- copy onto a row that is known whole, elements of any number of cells; lists laid over lists. -/
import Derived.Test.YtbbgieopcmjoeaaGreatDoorBase
import Derived.Laws.CopyRow
import Derived.Laws.CopyOwn
import Derived.Lib.Overlaps
import Derived.Lib.AppendZerosOnto
namespace Go.Proofs.YtbbgieopcmjoeaaGreatDoor
open Go.RowKit
theorem run_copy_rowK {P : Program} (w : World) (dT sT ty elem : TypeId) (g o dLen dCap : Nat) (a : Addr) (sLen sCap : Nat) (cur : List Value) (t : TypeId) (cs : List Value) (n sz : Nat)
    (hu : P.underlying dT = some (.slice elem)) (hs : (P.info? elem).map (·.size) = some sz) (hg : w.heap[g]? = some (.cells cur.toArray t (0, 0))) (hmin : Nat.min sLen dLen = n) (hn : cs.length = n * sz)
    (hsrc : ∀ j v, cs[j]? = some v → w.cell? (a.add j) = some v) (hfit : o + cs.length ≤ cur.length) (h1 : ∀ v ∈ cs, v.oneCell' = true) :
    (Builtin.copy_ #[dT, sT] ty #[.slice (some ⟨g, o, none⟩) dLen dCap, .slice (some a) sLen sCap]).run P w = .ok (goInt n) (w.setRow g (splice cur o cs).toArray) := by
  have hst := run_storeCells_at P g o t cs 0 cur.toArray w hg (by simpa using hfit) h1
  have hf := run_firstCells_some (P := P) w sz n a sLen sCap cs hn hsrc
  cases hq : P.info? elem with
  | none => simp [hq] at hs
  | some i =>
    have hi : i.size = sz := by simpa [hq] using hs
    simp [Builtin.copy_, run_underlying hu, Builtin.lenOf, sizeOf, typeInfo, hq, hi, hmin, hf, hst, splice]
theorem wp_copy_eq (P : Program) (w : World) {o : Oper} {a : Act} {K : Act → World → Prop} {Q : Exit → Act → World → Prop} (d s : Operand) (t t' : TypeId)
    (ho : o.op = .call { callee := .builtin .copy, args := #[d, s], argTypes := #[t, t'] }) (v u : Value) (hd : a.eval d = v) (hs : a.eval s = u) {v' : Value} {w' : World}
    (hr : (Builtin.copy_ #[t, t'] o.type #[v, u]).run P w = .ok v' w') (h : K (a.put o.dst v') w') : o.wp P a w K Q := by
  unfold Oper.wp execOp
  simp only [ho, resolve, invoke, builtin, Sem.run_bind, Sem.run_pure, Result.andThen_ok, List.map_toArray, List.map_cons, List.map_nil, hd, hs, hr]
  exact h
theorem wpList_copy_eq (P : Program) (w : World) {ops : Array Oper} {rest : List Oper} {o : Oper} {a : Act} {Q : Exit → Act → World → Prop} (hgd : o.guard = none) (d s : Operand) (t t' : TypeId)
    (ho : o.op = .call { callee := .builtin .copy, args := #[d, s], argTypes := #[t, t'] }) (v u : Value) (hd : a.eval d = v) (hs : a.eval s = u) {v' : Value} {w' : World}
    (hr : (Builtin.copy_ #[t, t'] o.type #[v, u]).run P w = .ok v' w') (h : wpList P ops Q rest (a.put o.dst v') w') : wpList P ops Q (o :: rest) a w :=
  wpList_plain hgd fun _ hK => wp_copy_eq P w d s t t' ho v u hd hs hr (hK _ _ h)
theorem step_copy_eq {P : Program} {ops : Array Oper} {o : Oper} {a : Act} {w : World} {K : Act → World → Prop} {Q : Exit → Act → World → Prop} {E : Prop}
    (hg : o.guard = none) (d x : Operand) (dT sT : TypeId) (hop : o.op = Op.call { callee := Callee.builtin Builtin.copy, args := #[d, x], argTypes := #[dT, sT] })
    (v u : Value) (hd : a.eval d = v) (hx : a.eval x = u) {v' : Value} {w' : World} (hr : (Builtin.copy_ #[dT, sT] o.type #[v, u]).run P w = .ok v' w') (hK : K (a.put o.dst v') w') :
    if Region.wanted o (yielded ops a.tmps) = true then Oper.wp P o a w K Q else E := by
  have hw : Region.wanted o (yielded ops a.tmps) = true := by simp [Region.wanted, hg]
  rw [if_pos hw]
  exact wp_copy_eq P w d x dT sT hop v u hd hx hr hK
theorem step_append_eq {P : Program} {ops : Array Oper} {o : Oper} {a : Act} {w : World} {K : Act → World → Prop} {Q : Exit → Act → World → Prop} {E : Prop}
    (hg : o.guard = none) (s x : Operand) (t t' : TypeId) (hop : o.op = Op.call { callee := Callee.builtin Builtin.append, args := #[s, x], argTypes := #[t, t'] })
    (v u : Value) (hs : a.eval s = v) (hx : a.eval x = u) {v' : Value} {w' : World} (hr : (Builtin.append_ #[t, t'] o.type #[v, u]).run P w = .ok v' w') (hK : K (a.put o.dst v') w') :
    if Region.wanted o (yielded ops a.tmps) = true then Oper.wp P o a w K Q else E := by
  have hw : Region.wanted o (yielded ops a.tmps) = true := by simp [Region.wanted, hg]
  rw [if_pos hw]
  exact Lib.wp_append_run w s x t t' hop v u hs hx v' w' hr hK
theorem below_row {B g : Nat} {w0 w : World} (hb : Below B w0 w) (hBg : B ≤ g) (cs : Array Value) : Below B w0 (w.setRow g cs) :=
  hb.trans ⟨rfl, rfl, rfl, by simp [World.setRow], fun k hk => setRow_other w g k cs (by omega)⟩
/-- One element put in: what stood from place i on has gone one on. -/
theorem insert_row {cur f e : List Value} {n c i : Nat} (hi : i < n) (hc : n + 1 ≤ c) (hcur : cur.length = c * 3) (hf : cur.take (n * 3) = f) (he : e.length = 3) :
    (splice (splice cur (i * 3 + 3) (f.drop (i * 3))) (i * 3) e).take ((n + 1) * 3) = f.take (i * 3) ++ (e ++ f.drop (i * 3)) := by
  have hfl : f.length = n * 3 := by rw [← hf, List.length_take]; omega
  have h1 : (splice cur (i * 3 + 3) (f.drop (i * 3))).take (i * 3) = f.take (i * 3) := by
    unfold splice
    rw [List.take_append_of_le_length (by simp; omega), List.take_take, ← hf, List.take_take]
    congr 1; omega
  have h2 : (splice cur (i * 3 + 3) (f.drop (i * 3))).drop (i * 3 + 3) = f.drop (i * 3) ++ cur.drop (i * 3 + 3 + (f.drop (i * 3)).length) := by
    unfold splice
    rw [List.drop_append_of_le_length (by simp; omega), List.drop_eq_nil_of_le (by simp; omega), List.nil_append]
  have e1 : splice (splice cur (i * 3 + 3) (f.drop (i * 3))) (i * 3) e = f.take (i * 3) ++ (e ++ (f.drop (i * 3) ++ cur.drop (i * 3 + 3 + (f.drop (i * 3)).length))) := by
    show (splice cur (i * 3 + 3) (f.drop (i * 3))).take (i * 3) ++ (e ++ (splice cur (i * 3 + 3) (f.drop (i * 3))).drop (i * 3 + e.length)) = _
    rw [he, h1, h2]
  have hl : (f.take (i * 3) ++ (e ++ f.drop (i * 3))).length = (n + 1) * 3 := by simp; omega
  rw [e1, ← List.append_assoc e, ← List.append_assoc, List.take_append_of_le_length (by omega), List.take_of_length_le (by omega)]
/-- The same into a new row. -/
theorem grow_row {R f e : List Value} {n i : Nat} (hi : i < n) (_hR : (n + 1) * 3 ≤ R.length) (hf : R.take (i * 3) = f.take (i * 3)) (hfl : f.length = n * 3) (he : e.length = 3) :
    (splice (splice R (i * 3) e) ((i + 1) * 3) (f.drop (i * 3))).take ((n + 1) * 3) = f.take (i * 3) ++ (e ++ f.drop (i * 3)) := by
  have h1 : (splice R (i * 3) e).take ((i + 1) * 3) = f.take (i * 3) ++ e := by
    unfold splice
    rw [hf, ← List.append_assoc, List.take_append_of_le_length (by simp; omega), List.take_of_length_le (by simp; omega)]
  have hl : (f.take (i * 3) ++ (e ++ f.drop (i * 3))).length = (n + 1) * 3 := by simp; omega
  show ((splice R (i * 3) e).take ((i + 1) * 3) ++ (f.drop (i * 3) ++ _)).take ((n + 1) * 3) = _
  rw [h1, ← List.append_assoc, List.append_assoc (f.take (i * 3)), List.take_append_of_le_length (by omega), List.take_of_length_le (by omega)]
/-- One element taken out. -/
theorem delete_row {cur f z : List Value} {m i : Nat} (hi : i ≤ m) (hcur : (m + 1) * 3 ≤ cur.length) (hf : cur.take ((m + 1) * 3) = f) :
    (splice (splice cur (i * 3) (f.drop ((i + 1) * 3))) (m * 3) z).take (m * 3) = f.take (i * 3) ++ f.drop ((i + 1) * 3) := by
  have hfl : f.length = (m + 1) * 3 := by rw [← hf, List.length_take]; omega
  have h1 : (splice cur (i * 3) (f.drop ((i + 1) * 3))).take (m * 3) = f.take (i * 3) ++ f.drop ((i + 1) * 3) := by
    have h2 : cur.take (i * 3) = f.take (i * 3) := by rw [← hf, List.take_take]; congr 1; omega
    have hl : (f.take (i * 3) ++ f.drop ((i + 1) * 3)).length = m * 3 := by simp; omega
    show (cur.take (i * 3) ++ (f.drop ((i + 1) * 3) ++ _)).take (m * 3) = _
    rw [h2, ← List.append_assoc, List.take_append_of_le_length (by omega), List.take_of_length_le (by omega)]
  have hR : m * 3 ≤ (splice cur (i * 3) (f.drop ((i + 1) * 3))).length := by
    rw [length_splice _ _ _ (by simp; omega)]; omega
  show ((splice cur (i * 3) (f.drop ((i + 1) * 3))).take (m * 3) ++ _).take (m * 3) = _
  rw [List.take_append_of_le_length (by rw [List.length_take]; omega), List.take_take, Nat.min_self, h1]
theorem run_append_rowK {P : Program} (w : World) (t ty e : TypeId) (i : TypeInfo) (ht : P.underlying t = some (.slice e)) (hi : P.info? e = some i) (g n cap : Nat) (cur : List Value) (T : TypeId) (a : Addr) (m c : Nat) (news : List Value) (sz : Nat)
    (hs : i.size = sz) (hl : news.length = m * sz) (hnews : ∀ j u, news[j]? = some u → w.cell? (a.add j) = some u) (h1 : ∀ u ∈ news, u.oneCell' = true) (hroom : n + m ≤ cap) (hg : w.heap[g]? = some (.cells cur.toArray T (0, 0))) (hfit : n * sz + news.length ≤ cur.length) :
    (Builtin.append_ #[t, t] ty #[.slice (some ⟨g, 0, none⟩) n cap, .slice (some a) m c]).run P w = .ok (.slice (some ⟨g, 0, none⟩) (n + m) cap) (w.setRow g (splice cur (n * sz) news).toArray) := by
  have hfc := run_firstCells_some (P := P) w sz m a m c news hl hnews
  have hst := run_storeCells_at P g (n * sz) T news 0 cur.toArray w hg (by simpa using hfit) h1
  have ha : (⟨g, 0, none⟩ : Addr).add (n * sz) = ⟨g, n * sz, none⟩ := by unfold Addr.add; split <;> simp_all
  simp [Builtin.append_, run_underlying ht, sizeOf, typeInfo, hi, hs, Builtin.lenOf, hroom, hfc, ha, hst, splice]
theorem run_clear_rowK {P : Program} (w : World) (t ty e : TypeId) (z : Value) (ht : P.underlying t = some (.slice e)) (hz : ∀ w, (zeroValue e).run P w = .ok z w) (g o n c : Nat) (cur : List Value) (T : TypeId) (h0 : 0 < n)
    (hg : w.heap[g]? = some (.cells cur.toArray T (0, 0))) (hfit : o + (Builtin.zeroCells z.cells n).size ≤ cur.length) (h1 : ∀ u ∈ (Builtin.zeroCells z.cells n).toList, u.oneCell' = true) :
    (Builtin.clear_ #[t] ty #[.slice (some ⟨g, o, none⟩) n c]).run P w = .ok (.tuple #[]) (w.setRow g (splice cur o (Builtin.zeroCells z.cells n).toList).toArray) := by
  have hst := run_storeCells_at P g o T (Builtin.zeroCells z.cells n).toList 0 cur.toArray w hg (by simpa using hfit) h1
  obtain ⟨n, rfl⟩ : ∃ k, n = k + 1 := ⟨n - 1, by omega⟩
  simp [Builtin.clear_, run_underlying ht, hz, hst, splice]
end Go.Proofs.YtbbgieopcmjoeaaGreatDoor
