/- append of a string, or of another slice, to an own growing slice. -/
import Derived.Test.YtglbbdailankpaaGreatDoorB8
import Derived.Test.YtglbbdailankpaaGreatDoorC08
import Derived.Lib.AppendStr
namespace Go.Proofs.Bc
open Go Go.RowKit
section
variable {P : Program} {w0 w : World} {H : Snap} {L : List Chunk}
/-- The row of an own block, replaced. -/
theorem S.setRow {b : Nat} {cs : Array Value} {t : TypeId} (h : S w0 H w (row b cs t :: L)) (cs' : Array Value) : S w0 H (w.setRow b cs') (row b cs' t :: L) := by
  have hother : ∀ k, k ≠ b → (w.setRow b cs').heap[k]? = w.heap[k]? := fun k hk => setRow_other w b k _ hk
  refine ⟨h.os, h.tape, h.output, fun k o hk => ?_, fun d hd => ?_, fun d hd => ?_, h.nodup⟩
  · rw [hother k (fun e => by have := h.free _ List.mem_cons_self; subst e; rw [this] at hk; cases hk)]
    exact h.snap k o hk
  · rcases List.mem_cons.1 hd with rfl | hd
    · exact ⟨_, setRow_heap w b cs _ t _ (h.row_heap List.mem_cons_self), rfl⟩
    · obtain ⟨o, ho, hk⟩ := h.own d (List.mem_cons_of_mem _ hd)
      exact ⟨o, (hother d.b (S.ne_of h.nodup hd)).trans ho, hk⟩
  · rcases List.mem_cons.1 hd with rfl | hd
    · exact h.free (row b cs t) List.mem_cons_self
    · exact h.free d (List.mem_cons_of_mem _ hd)
theorem bytes_len (bs : List UInt8) : ∀ x, x ∈ bs.map bcell → x.length = 1 := fun x hx => by obtain ⟨z, _, rfl⟩ := List.mem_map.1 hx; rfl
theorem flat_bytes (bs : List UInt8) : (bs.map bcell).flatten = bs.map fun b => Value.int .u8 b.toNat := by
  induction bs with
  | nil => rfl
  | cons b bs ih => rw [List.map_cons, List.flatten_cons, ih]; rfl
theorem strCells_eq (s : ByteArray) : Lib.strCells s = (s.data.toList.map bcell).flatten := by rw [flat_bytes]; rfl
/-- append(v, s...). -/
theorem run_append_str {t u ty e : TypeId} {v : Value} {bs : List UInt8} (h : SO w0 H w e 1 v (bs.map bcell) L) (s : ByteArray) (ht : P.underlying t = some (.slice e)) (hu : P.underlying u = some .string)
    (hinfo : (P.info? e).map (fun i => (i.zero, i.size, i.bytes)) = some (some (.int .u8 0), 1, 1)) (hb : bs.length + s.size ≤ 1000000) :
    ∃ v' w', (Builtin.append_ #[t, u] ty #[v, .string s]).run P w = .ok v' w' ∧ SO w0 H w' e 1 v' ((bs ++ s.data.toList).map bcell) L := by
  obtain ⟨i, hi, hq⟩ := Option.map_eq_some_iff.1 hinfo
  simp only [Prod.mk.injEq] at hq
  obtain ⟨hz, hsize, hby⟩ := hq
  have hss : s.data.toList.length = s.size := by rw [Array.length_toList]; rfl
  have hmax : (1000000 : Nat) ≤ maxLen := by decide
  have fresh : ∀ (cap : Nat) (cs : Array Value), bs.length + s.size ≤ cap → cap ≤ maxLen → cs.size = cap → cs.toList.take (bs.length + s.size) = ((bs ++ s.data.toList).map bcell).flatten →
      S w0 H w L → SO w0 H (w.drew.alloc (.cells cs e)) e 1 (.slice (some ⟨w.heap.size, 0, none⟩) (bs.length + s.size) cap) ((bs ++ s.data.toList).map bcell) L := fun cap cs h1 h2 h3 h4 hS => by
    refine .inr ⟨w.heap.size, cap, by simp, ?_⟩
    have := hS.drew.alloc (.cells cs e)
    exact this.imp fun o ho => ⟨cs, ho, by simpa using h1, h2, by omega, by simpa using h4⟩
  rcases h with ⟨rfl, h2, h3⟩ | ⟨g, cap, rfl, h⟩
  · have : bs = [] := by simpa using h2
    subst this
    by_cases h0 : s.size = 0
    · have hn : s.data.toList = [] := List.eq_nil_of_length_eq_zero (by rw [hss]; exact h0)
      refine ⟨.slice none 0 0, w, ?_, by rw [hn]; exact .inl ⟨rfl, rfl, h3⟩⟩
      have hf := Lib.run_firstCells_string (P := P) w 1 s
      rw [h0] at hf
      simp [Builtin.append_, run_underlying ht, run_underlying hu, sizeOf, typeInfo, hi, hsize, Builtin.lenOf, h0, hf]
    · have hr := run_append_nil_string (P := P) w t u ty e i (.int .u8 0) ht hu hi hz s (by omega) (by simp at hb; omega) (by rw [hby]; simp at hb; omega)
      refine ⟨_, _, hr, ?_⟩
      have hge := grownCap_ge w s.size 0 e
      have := fresh (grownCap w s.size 0 e) (s.data.map (fun b => Value.int .u8 b.toNat) ++ Builtin.zeroCells (Value.int .u8 0).cells (grownCap w s.size 0 e - s.size)) (by simpa using hge) (grownCap_le_maxLen w s.size 0 e (by simp at hb; omega))
        (by rw [Array.size_append, Array.size_map, size_zeroCells]; show s.size + _ * 1 = _; omega) (by
          rw [flat_bytes]
          simp only [Array.toList_append, List.length_nil, Nat.zero_add, List.nil_append]
          rw [← hss, ← List.length_map (f := fun b : UInt8 => Value.int .u8 b.toNat), Array.toList_map]
          exact List.take_left) h3
      simpa using this
  · obtain ⟨o, ⟨cur, rfl, h1, h2, h3, h4⟩, h⟩ := h.known
    have h : S w0 H w (row g cur e :: L) := h
    have hg : w.heap[g]? = some (.cells cur e) := h.row_heap List.mem_cons_self
    simp only [List.length_map, Nat.mul_one] at h1 h3 h4 ⊢
    by_cases hroom : bs.length + s.size ≤ cap
    · have hr := Lib.run_append_room_string (P := P) w t u ty e i ht hu hi hsize g bs.length cap cur hg s hroom (by omega)
      refine ⟨_, _, hr, .inr ⟨g, cap, by simp, ?_⟩⟩
      refine (h.setRow _).imp fun o ho => ⟨_, ho, by simpa using hroom, h2, ?_, ?_⟩
      · simp only [List.size_toArray, List.length_append, List.length_take, List.length_drop, Array.length_toList, Lib.strCells_length]
        omega
      · rw [h4, strCells_eq, List.map_append, List.flatten_append]
        have hl : ((bs.map bcell ++ s.data.toList.map bcell).length * 1) = ((bs.map bcell).flatten ++ (s.data.toList.map bcell).flatten).length := by simp [flat_bytes]
        rw [hl]
        exact List.take_left
    · have holds : ∀ j u, ((bs.map bcell).flatten)[j]? = some u → w.cell? ((⟨g, 0, none⟩ : Addr).add j) = some u := fun j u hj => by
        rw [addr_add, Nat.zero_add]
        rw [← h4, List.getElem?_take] at hj
        split at hj
        · simp only [World.cell?, hg]; simpa using hj
        · cases hj
      have hr := Lib.run_append_grow_string (P := P) w t u ty e i (.int .u8 0) ht hu hi hz ⟨g, 0, none⟩ bs.length cap ((bs.map bcell).flatten) (by rw [hsize]; simp [flat_bytes]) holds s (by omega) (by omega) (by rw [hby]; exact growslice_fits (by omega) (by omega))
      refine ⟨_, _, hr, ?_⟩
      have hge := grownCap_ge w (bs.length + s.size) cap e
      refine fresh _ _ hge (grownCap_le_maxLen w (bs.length + s.size) cap e (by omega)) ?_ ?_ h.drop
      · simp only [Array.size_append, List.size_toArray, size_zeroCells, Lib.strCells_length, flat_bytes, List.length_map]
        simp [Value.cells]; omega
      · rw [strCells_eq, List.map_append, List.flatten_append]
        simp only [Array.toList_append, List.append_assoc]
        rw [← List.append_assoc]
        have hl : bs.length + s.size = ((bs.map bcell).flatten ++ (s.data.toList.map bcell).flatten).length := by simp [flat_bytes, hss]
        rw [hl]
        exact List.take_left
/-- append(v, ys...), at least one element. -/
theorem run_append_many {t ty e : TypeId} {size bytes : Nat} {z v : Value} {xs : List (List Value)} (hown : SO w0 H w e size v xs L) (hxs : ∀ x, x ∈ xs → x.length = size) (ht : P.underlying t = some (.slice e))
    (hinfo : (P.info? e).map (fun i => (i.zero, i.size, i.bytes)) = some (some z, size, bytes)) (hzs : z.cells.size = size) (hsz : 0 < size)
    (ad : Addr) (c : Nat) (ys : List (List Value)) (hys : ∀ y, y ∈ ys → y.length = size) (hpos : 0 < ys.length) (hnews : ∀ j u, ys.flatten[j]? = some u → w.cell? (ad.add j) = some u) (h1 : ∀ u, u ∈ ys.flatten → u.oneCell' = true)
    (h63 : xs.length + ys.length ≤ maxLen) (hbytes : (xs.length + ys.length) * bytes ≤ 140737488355328) :
    ∃ v' w', (Builtin.append_ #[t, t] ty #[v, .slice (some ad) ys.length c]).run P w = .ok v' w' ∧ SO w0 H w' e size v' (xs ++ ys) L := by
  obtain ⟨i, hi, hq⟩ := Option.map_eq_some_iff.1 hinfo
  simp only [Prod.mk.injEq] at hq
  obtain ⟨hz, hsize, hby⟩ := hq
  have hr := hown.ownsRow hxs
  obtain ⟨v', w', hrun, h2, h3, _, h5⟩ := run_append_own_at (P := P) w 0 t ty e i z size bytes ht hi hz hsize hby hzs hsz v xs.length xs.flatten hr ad ys.length c ys.flatten (flatten_len size ys hys) hnews h1 h63 hbytes (Nat.zero_le _)
  have hSO : SO w0 H w' e size v' (xs ++ ys) L := by
    obtain ⟨_, hq⟩ := h2
    rcases hq with ⟨_, hq⟩ | ⟨g, cap, cur, rfl, _, hg, hc1, hc2, hc3, hc4⟩
    · omega
    · have hgl : g < w'.heap.size := (Array.getElem?_eq_some_iff.1 hg).1
      refine .inr ⟨g, cap, by rw [List.length_append], ?_⟩
      -- the blocks told of, in the new world
      have hrest : ∀ (b : Nat) (u : Obj), w.heap[b]? = some u → some b ≠ v.ownBlock → w'.heap[b]? = some u := fun b u hb hne => (h3.block b (Array.getElem?_eq_some_iff.1 hb).1 hne).trans hb
      have hbase := hown.base
      have hgne : ∀ d, d ∈ L → d.b ≠ g ∧ some d.b ≠ v.ownBlock := by
        intro d hd
        have hv : some d.b ≠ v.ownBlock := by
          rcases hown with ⟨rfl, _, _⟩ | ⟨g', cap', rfl, hS⟩
          · simp [Value.ownBlock]
          · simp only [Value.ownBlock, ne_eq, Option.some.injEq]
            exact S.ne_of hS.nodup hd
        refine ⟨fun e => ?_, hv⟩
        have h5' : some g = v.ownBlock ∨ some g = some w.heap.size := h5
        rcases h5' with h5 | h5
        · exact hv (by rw [e]; exact h5)
        · have := hbase.own_lt hd
          rw [e] at this
          simp only [Option.some.injEq] at h5
          omega
      have hHg : ∀ b u, H b = some u → b ≠ g ∧ some b ≠ v.ownBlock := by
        intro b u hb
        have hv : some b ≠ v.ownBlock := by
          rcases hown with ⟨rfl, _, _⟩ | ⟨g', cap', rfl, hS⟩
          · simp [Value.ownBlock]
          · simp only [Value.ownBlock, ne_eq, Option.some.injEq]
            rintro rfl
            have := hS.free _ List.mem_cons_self
            rw [show (growRow b cap' e size xs).b = b from rfl, hb] at this
            cases this
        refine ⟨fun e => ?_, hv⟩
        have h5' : some g = v.ownBlock ∨ some g = some w.heap.size := h5
        rcases h5' with h5 | h5
        · exact hv (by rw [e]; exact h5)
        · have := hbase.lt hb
          rw [e] at this
          simp only [Option.some.injEq] at h5
          omega
      refine ⟨h3.os.trans hbase.os, h3.tape.trans hbase.tape, h3.output.trans hbase.output, fun b u hb => hrest b u (hbase.snap b u hb) (hHg b u hb).2, ?_, ?_, ?_⟩
      · intro d hd
        rcases List.mem_cons.1 hd with rfl | hd
        · refine ⟨_, hg, cur, rfl, by rw [List.length_append]; exact hc1, hc2, hc3, ?_⟩
          rw [List.length_append, List.flatten_append]
          exact hc4
        · obtain ⟨u, hu, hk⟩ := hbase.own d hd
          exact ⟨u, hrest d.b u hu (hgne d hd).2, hk⟩
      · intro d hd
        rcases List.mem_cons.1 hd with rfl | hd
        · cases hH : H g with
          | none => exact hH
          | some u => exact absurd rfl (hHg g u hH).1
        · exact hbase.free d hd
      · rw [List.map_cons]
        refine List.nodup_cons.2 ⟨fun hm => ?_, hbase.nodup⟩
        obtain ⟨d, hd, e⟩ := List.mem_map.1 hm
        exact (hgne d hd).1 e
  exact ⟨v', w', hrun, hSO⟩
section
variable {ops : Array Oper} {rest : List Oper} {o : Oper} {a : Act} {Q : Exit → Act → World → Prop}
/-- An append whose run is known. -/
theorem wpList_append_run_S {e size : Nat} {xs : List (List Value)} (hgd : o.guard = none) (s x : Operand) (t u : TypeId) (ho : o.op = .call { callee := .builtin .append, args := #[s, x], argTypes := #[t, u] }) (v y : Value) (hs : a.eval s = v) (hx : a.eval x = y)
    (hr : ∃ v' w', (Builtin.append_ #[t, u] o.type #[v, y]).run P w = .ok v' w' ∧ SO w0 H w' e size v' xs L)
    (h : ∀ v' w', SO w0 H w' e size v' xs L → wpList P ops Q rest (a.put o.dst v') w') : wpList P ops Q (o :: rest) a w := by
  obtain ⟨v', w', hrun, hSO⟩ := hr
  refine wpList_plain hgd fun K hK => ?_
  unfold Oper.wp execOp
  simp only [ho, resolve, invoke, builtin, Sem.run_bind, Sem.run_pure, Result.andThen_ok, List.map_toArray, List.map_cons, List.map_nil, hs, hx, hrun]
  exact hK _ _ (h v' w' hSO)
end
#print axioms run_append_many
#print axioms run_append_str
end
end Go.Proofs.Bc
