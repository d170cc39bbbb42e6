/- Laws on operations: a scalar load, a new variable that is stored at once, a new variable. -/
import Derived.Test.YtglbbdailankpaaGreatDoorB6
import Derived.Great.Walk
import Derived.Great.FillDense
import Derived.Deep.WholeRow
namespace Go.Proofs.Bc
open Go Go.RowKit
variable {P : Program} {ops : Array Oper} {rest : List Oper} {o o1 o2 : Oper} {a : Act} {w : World} {Q : Exit → Act → World → Prop}

/-- A fact laid aside: the walk's simp does not see it. -/
theorem asid {p : Prop} (h : p) : Aside p := h
theorem run_loadVar_one (w : World) {t : TypeId} {ad : Addr} {v : Value} (hagg : (isAgg t).run P w = .ok false w) (hc : w.cell? ad = some v) : (loadVar t ad).run P w = .ok v w := by
  simp only [loadVar, Sem.run_bind, hagg, Result.andThen]
  rw [if_neg (by decide), run_load, hc]
/-- A scalar is read. -/
theorem wpList_load_one (hgd : o.guard = none) (ty : TypeId) (x : Operand) (ho : o.op = .load ty x) {ad : Addr} (hx : a.eval x = .pointer (some ad)) (v : Value)
    (hagg : ∀ w, (isAgg ty).run P w = .ok false w) (hc : w.cell? ad = some v) (h : wpList P ops Q rest (a.put o.dst v) w) : wpList P ops Q (o :: rest) a w :=
  Great.wpList_readTo hgd _ rfl v (by
    unfold execOp
    simp only [ho, hx, Instr.loadAt, Instr.sureAddr, Sem.run_bind, Sem.run_pure, Result.andThen_ok, run_loadVar_one w (hagg w) hc]) h
/-- A new variable. -/
theorem wpList_alloc_any (hgd : o.guard = none) (t : TypeId) (ho : o.op = .alloc t) (z : Value) (hz : ∀ w, (zeroValue t).run P w = .ok z w)
    (h : wpList P ops Q rest (a.put o.dst (.pointer (some ⟨w.heap.size, 0, none⟩))) (w.alloc (.cells z.cells t))) : wpList P ops Q (o :: rest) a w :=
  Great.wpList_runTo hgd _ rfl _ _ (by
    unfold execOp
    simp only [ho, Instr.alloc, Sem.run_bind, hz, Result.andThen_ok, newVar, newRow, run_newObj_alloc, Sem.run_pure]) h
/-- A new variable, a whole struct stored into it at once. -/
theorem wpList_new_struct (hg1 : o1.guard = none) (hg2 : o2.guard = none) (t : TypeId) (d : Tmp) (ho1 : o1.op = .alloc t) (hd : o1.dst = some d) (y : Operand) (ho2 : o2.op = .store t (.tmp d) y) {z : Value} {k : Nat}
    (hz : (P.info? t).map (fun i => (i.zero, i.size)) = some (some z, k)) (hzk : z.cells.size = k) (cs : List Value) (hl : cs.length = k) (h1 : ∀ v ∈ cs, v.oneCell' = true)
    (hx : (a.put (some d) (.pointer (some ⟨w.heap.size, 0, none⟩))).eval (.tmp d) = .pointer (some ⟨w.heap.size, 0, none⟩))
    (hy : (a.put (some d) (.pointer (some ⟨w.heap.size, 0, none⟩))).eval y = .agg cs.toArray)
    (h : ∀ wn, wn = w.alloc (.cells cs.toArray t) → wpList P ops Q rest ((a.put (some d) (.pointer (some ⟨w.heap.size, 0, none⟩))).put o2.dst undef) wn) : wpList P ops Q (o1 :: o2 :: rest) a w := by
  obtain ⟨hz1, hz2⟩ := zero_of_info hz
  refine wpList_alloc_any hg1 t ho1 z hz1 ?_
  rw [hd]
  refine wpList_plain hg2 fun K hK => ?_
  unfold Oper.wp execOp
  have hst := run_storeAt_new (P := P) w t z.cells cs.toArray (by rw [hz2, List.size_toArray, hl]) (hzk.trans (hl.symm.trans List.size_toArray.symm)) (all_oneCell_toArray h1)
  simp only [ho2, hx, hy, Sem.run_bind, hst, Result.andThen_ok]
  exact hK _ _ (h _ rfl)
/-- A slice literal of one element. -/
theorem builtSlice_one {e size : Nat} {z v : Value} {bytes : Nat} (hinfo : (P.info? e).map (fun i => (i.zero, i.size, i.bytes)) = some (some z, size, bytes)) (hsz : 0 < size) (hbs : size ≤ 16777216) (hv : v.cells.size = size) :
    P.builtSlice e 1 [(0, v)] = some v.cells := by
  obtain ⟨i, hi, hq⟩ := Option.map_eq_some_iff.1 hinfo
  simp only [Prod.mk.injEq] at hq
  obtain ⟨hz, hs, _⟩ := hq
  unfold Program.builtSlice
  rw [hi]
  simp only [hz, hs, Nat.one_mul]
  rw [if_neg (by omega)]
  obtain ⟨r, h1, h2, h3⟩ := Great.fill_dense hsz [v] 0 ((Array.range size).map fun x => z.cells[x % z.cells.size]!) (fun u hu => by rw [List.mem_singleton.1 hu]; exact hv) (by simp)
  have h1 : Instr.fill (fun i => some (i * size, size)) ((Array.range size).map fun x => z.cells[x % z.cells.size]!) [(0, v)] = some r := h1
  rw [h1]
  congr 1
  apply Array.ext_getElem?
  intro k
  rw [h3 k]
  by_cases hk : k < size
  · rw [if_pos (by simp; omega), Nat.div_eq_of_lt hk, Nat.mod_eq_of_lt hk]
    simp
  · rw [if_neg (by simp; omega), Array.getElem?_eq_none (by simp; omega), Array.getElem?_eq_none (by omega)]
/-- append(s, x): the slice literal and the call. -/
theorem wpList_append1 {w0 : World} {H : Snap} {L : List Chunk} {v : Value} {e size : Nat} {xs : List (List Value)} (hg1 : o1.guard = none) (hg2 : o2.guard = none) (t : TypeId) (x s : Operand) (d : Tmp)
    (ho1 : o1.op = .buildSlice t 1 #[(0, x)]) (hd : o1.dst = some d) (ho2 : o2.op = .call { callee := .builtin .append, args := #[s, .tmp d], argTypes := #[t, t] })
    (z : Value) (bytes : Nat) (ht : P.underlying t = some (.slice e)) (hinfo : (P.info? e).map (fun i => (i.zero, i.size, i.bytes)) = some (some z, size, bytes)) (hzs : z.cells.size = size) (hsz : 0 < size) (hbs : size ≤ 16777216)
    (hown : SO w0 H w e size v xs L) (hxs : ∀ x, x ∈ xs → x.length = size) (vx : Value) (hx : a.eval x = vx) (y : List Value) (hy : vx.cells = y.toArray) (hyl : y.length = size) (h1 : ∀ u, u ∈ y → u.oneCell' = true)
    (hs : (a.put (some d) (.slice (some ⟨w.heap.size, 0, none⟩) 1 1)).eval s = v) (hx2 : (a.put (some d) (.slice (some ⟨w.heap.size, 0, none⟩) 1 1)).eval (.tmp d) = .slice (some ⟨w.heap.size, 0, none⟩) 1 1)
    (h63 : xs.length + 1 ≤ maxLen) (hbytes : (xs.length + 1) * bytes ≤ 140737488355328)
    (h : ∀ v' w', SO w0 H w' e size v' (xs ++ [y]) L → wpList P ops Q rest ((a.put (some d) (.slice (some ⟨w.heap.size, 0, none⟩) 1 1)).put o2.dst v') w') : wpList P ops Q (o1 :: o2 :: rest) a w := by
  refine Great.wpList_buildSliceTo hg1 t e 1 #[(0, x)] ho1 w.heap.size rfl (some d) hd ht y.toArray ?_ ?_
  · rw [← hy]
    have := builtSlice_one (P := P) (v := vx) hinfo hsz hbs (by rw [hy]; simpa using hyl)
    simpa [hx] using this
  · refine wpList_append_S hg2 s (.tmp d) t ho2 z bytes ht hinfo hzs hsz hs (hown.garbage _) hxs ⟨w.heap.size, 0, none⟩ 1 y hx2 hyl (fun j u hj => ?_) h1 h63 hbytes h
    rw [addr_add, Nat.zero_add]
    simp only [World.cell?, World.alloc, Array.getElem?_push, if_true]
    simpa using hj
#print axioms wpList_append1
#print axioms wpList_new_struct
end Go.Proofs.Bc
