/- append of a string, or of another slice, to an own growing slice. -/
import Derived.Test.YtglbbdailankpaaGreatDoorB8
import Derived.Test.YtglbbdailankpaaGreatDoorC08
import Derived.Lib.AppendStr
import Derived.Test.YtglbbdailankpaaGreatDoorXR
import Derived.Test.YtglbbdailankpaaGreatDoorB3
import Derived.Test.YtglbbdailankpaaGreatDoorE2
import Derived.Test.YtglbbdailankpaaGreatDoorD4
namespace Go.Proofs.Bc
open Go Go.RowKit
section
variable {P : Program} {w0 w : World} {H : Snap} {L : List Chunk}
/-- The row of an own block, replaced. -/
theorem S.setRow {b : Nat} {cs : Array Value} {t : TypeId} (h : S w0 H w (row b cs t :: L)) (cs' : Array Value) : S w0 H (w.setRow b cs') (row b cs' t :: L) := by
  have hother : ∀ k, k ≠ b → (w.setRow b cs').heap[k]? = w.heap[k]? := fun k hk => setRow_other w b k _ hk
  refine ⟨h.os, h.tape, h.output, fun k o hk => ?_, fun d hd => ?_, fun d hd => ?_, h.nodup⟩
  · rw [hother k (fun e => by have := h.free _ List.mem_cons_self; subst e; rw [this] at hk; cases hk)]
    exact h.snap k o hk
  · rcases List.mem_cons.1 hd with rfl | hd
    · exact ⟨_, setRow_heap w b cs _ t _ (h.row_heap List.mem_cons_self), rfl⟩
    · obtain ⟨o, ho, hk⟩ := h.own d (List.mem_cons_of_mem _ hd)
      exact ⟨o, (hother d.b (S.ne_of h.nodup hd)).trans ho, hk⟩
  · rcases List.mem_cons.1 hd with rfl | hd
    · exact h.free (row b cs t) List.mem_cons_self
    · exact h.free d (List.mem_cons_of_mem _ hd)
theorem bytes_len (bs : List UInt8) : ∀ x, x ∈ bs.map bcell → x.length = 1 := fun x hx => by obtain ⟨z, _, rfl⟩ := List.mem_map.1 hx; rfl
theorem flat_bytes (bs : List UInt8) : (bs.map bcell).flatten = bs.map fun b => Value.int .u8 b.toNat := by
  induction bs with
  | nil => rfl
  | cons b bs ih => rw [List.map_cons, List.flatten_cons, ih]; rfl
theorem strCells_eq (s : ByteArray) : Lib.strCells s = (s.data.toList.map bcell).flatten := by rw [flat_bytes]; rfl
/-- append(v, s...). -/
theorem run_append_str {t u ty e : TypeId} {v : Value} {bs : List UInt8} (h : SO w0 H w e 1 v (bs.map bcell) L) (s : ByteArray) (ht : P.underlying t = some (.slice e)) (hu : P.underlying u = some .string)
    (hinfo : (P.info? e).map (fun i => (i.zero, i.size, i.bytes)) = some (some (.int .u8 0), 1, 1)) (hb : bs.length + s.size ≤ 1000000) :
    ∃ v' w', (Builtin.append_ #[t, u] ty #[v, .string s]).run P w = .ok v' w' ∧ SO w0 H w' e 1 v' ((bs ++ s.data.toList).map bcell) L := by
  obtain ⟨i, hi, hq⟩ := Option.map_eq_some_iff.1 hinfo
  simp only [Prod.mk.injEq] at hq
  obtain ⟨hz, hsize, hby⟩ := hq
  have hss : s.data.toList.length = s.size := by rw [Array.length_toList]; rfl
  have hmax : (1000000 : Nat) ≤ maxLen := by decide
  have fresh : ∀ (cap : Nat) (cs : Array Value), bs.length + s.size ≤ cap → cap ≤ maxLen → cs.size = cap → cs.toList.take (bs.length + s.size) = ((bs ++ s.data.toList).map bcell).flatten →
      S w0 H w L → SO w0 H (w.drew.alloc (.cells cs e)) e 1 (.slice (some ⟨w.heap.size, 0, none⟩) (bs.length + s.size) cap) ((bs ++ s.data.toList).map bcell) L := fun cap cs h1 h2 h3 h4 hS => by
    refine .inr ⟨w.heap.size, cap, by simp, ?_⟩
    have := hS.drew.alloc (.cells cs e)
    exact this.imp fun o ho => ⟨cs, ho, by simpa using h1, h2, by omega, by simpa using h4⟩
  rcases h with ⟨rfl, h2, h3⟩ | ⟨g, cap, rfl, h⟩
  · have : bs = [] := by simpa using h2
    subst this
    by_cases h0 : s.size = 0
    · have hn : s.data.toList = [] := List.eq_nil_of_length_eq_zero (by rw [hss]; exact h0)
      refine ⟨.slice none 0 0, w, ?_, by rw [hn]; exact .inl ⟨rfl, rfl, h3⟩⟩
      have hf := Lib.run_firstCells_string (P := P) w 1 s
      rw [h0] at hf
      simp [Builtin.append_, run_underlying ht, run_underlying hu, sizeOf, typeInfo, hi, hsize, Builtin.lenOf, h0, hf]
    · have hr := run_append_nil_string (P := P) w t u ty e i (.int .u8 0) ht hu hi hz s (by omega) (by simp at hb; omega) (by rw [hby]; simp at hb; omega)
      refine ⟨_, _, hr, ?_⟩
      have hge := grownCap_ge w s.size 0 e
      have := fresh (grownCap w s.size 0 e) (s.data.map (fun b => Value.int .u8 b.toNat) ++ Builtin.zeroCells (Value.int .u8 0).cells (grownCap w s.size 0 e - s.size)) (by simpa using hge) (grownCap_le_maxLen w s.size 0 e (by simp at hb; omega))
        (by rw [Array.size_append, Array.size_map, size_zeroCells]; show s.size + _ * 1 = _; omega) (by
          rw [flat_bytes]
          simp only [Array.toList_append, List.length_nil, Nat.zero_add, List.nil_append]
          rw [← hss, ← List.length_map (f := fun b : UInt8 => Value.int .u8 b.toNat), Array.toList_map]
          exact List.take_left) h3
      simpa using this
  · obtain ⟨o, ⟨cur, rfl, h1, h2, h3, h4⟩, h⟩ := h.known
    have h : S w0 H w (row g cur e :: L) := h
    have hg : w.heap[g]? = some (.cells cur e) := h.row_heap List.mem_cons_self
    simp only [List.length_map, Nat.mul_one] at h1 h3 h4 ⊢
    by_cases hroom : bs.length + s.size ≤ cap
    · have hr := Lib.run_append_room_string (P := P) w t u ty e i ht hu hi hsize g bs.length cap cur hg s hroom (by omega)
      refine ⟨_, _, hr, .inr ⟨g, cap, by simp, ?_⟩⟩
      refine (h.setRow _).imp fun o ho => ⟨_, ho, by simpa using hroom, h2, ?_, ?_⟩
      · simp only [List.size_toArray, List.length_append, List.length_take, List.length_drop, Array.length_toList, Lib.strCells_length]
        omega
      · rw [h4, strCells_eq, List.map_append, List.flatten_append]
        have hl : ((bs.map bcell ++ s.data.toList.map bcell).length * 1) = ((bs.map bcell).flatten ++ (s.data.toList.map bcell).flatten).length := by simp [flat_bytes]
        rw [hl]
        exact List.take_left
    · have holds : ∀ j u, ((bs.map bcell).flatten)[j]? = some u → w.cell? ((⟨g, 0, none⟩ : Addr).add j) = some u := fun j u hj => by
        rw [addr_add, Nat.zero_add]
        rw [← h4, List.getElem?_take] at hj
        split at hj
        · simp only [World.cell?, hg]; simpa using hj
        · cases hj
      have hr := Lib.run_append_grow_string (P := P) w t u ty e i (.int .u8 0) ht hu hi hz ⟨g, 0, none⟩ bs.length cap ((bs.map bcell).flatten) (by rw [hsize]; simp [flat_bytes]) holds s (by omega) (by omega) (by rw [hby]; exact growslice_fits (by omega) (by omega))
      refine ⟨_, _, hr, ?_⟩
      have hge := grownCap_ge w (bs.length + s.size) cap e
      refine fresh _ _ hge (grownCap_le_maxLen w (bs.length + s.size) cap e (by omega)) ?_ ?_ h.drop
      · simp only [Array.size_append, List.size_toArray, size_zeroCells, Lib.strCells_length, flat_bytes, List.length_map]
        simp [Value.cells]; omega
      · rw [strCells_eq, List.map_append, List.flatten_append]
        simp only [Array.toList_append, List.append_assoc]
        rw [← List.append_assoc]
        have hl : bs.length + s.size = ((bs.map bcell).flatten ++ (s.data.toList.map bcell).flatten).length := by simp [flat_bytes, hss]
        rw [hl]
        exact List.take_left
/-- append(v, ys...), at least one element. -/
theorem run_append_many {t ty e : TypeId} {size bytes : Nat} {z v : Value} {xs : List (List Value)} (hown : SO w0 H w e size v xs L) (hxs : ∀ x, x ∈ xs → x.length = size) (ht : P.underlying t = some (.slice e))
    (hinfo : (P.info? e).map (fun i => (i.zero, i.size, i.bytes)) = some (some z, size, bytes)) (hzs : z.cells.size = size) (hsz : 0 < size)
    (ad : Addr) (c : Nat) (ys : List (List Value)) (hys : ∀ y, y ∈ ys → y.length = size) (hpos : 0 < ys.length) (hnews : ∀ j u, ys.flatten[j]? = some u → w.cell? (ad.add j) = some u) (h1 : ∀ u, u ∈ ys.flatten → u.oneCell' = true)
    (h63 : xs.length + ys.length ≤ maxLen) (hbytes : (xs.length + ys.length) * bytes ≤ 140737488355328) :
    ∃ v' w', (Builtin.append_ #[t, t] ty #[v, .slice (some ad) ys.length c]).run P w = .ok v' w' ∧ SO w0 H w' e size v' (xs ++ ys) L := by
  obtain ⟨i, hi, hq⟩ := Option.map_eq_some_iff.1 hinfo
  simp only [Prod.mk.injEq] at hq
  obtain ⟨hz, hsize, hby⟩ := hq
  have hr := hown.ownsRow hxs
  obtain ⟨v', w', hrun, h2, h3, _, h5⟩ := run_append_own_at (P := P) w 0 t ty e i z size bytes ht hi hz hsize hby hzs hsz v xs.length xs.flatten hr ad ys.length c ys.flatten (flatten_len size ys hys) hnews h1 h63 hbytes (Nat.zero_le _)
  have hSO : SO w0 H w' e size v' (xs ++ ys) L := by
    obtain ⟨_, hq⟩ := h2
    rcases hq with ⟨_, hq⟩ | ⟨g, cap, cur, rfl, _, hg, hc1, hc2, hc3, hc4⟩
    · omega
    · have hgl : g < w'.heap.size := (Array.getElem?_eq_some_iff.1 hg).1
      refine .inr ⟨g, cap, by rw [List.length_append], ?_⟩
      -- the blocks told of, in the new world
      have hrest : ∀ (b : Nat) (u : Obj), w.heap[b]? = some u → some b ≠ v.ownBlock → w'.heap[b]? = some u := fun b u hb hne => (h3.block b (Array.getElem?_eq_some_iff.1 hb).1 hne).trans hb
      have hbase := hown.base
      have hgne : ∀ d, d ∈ L → d.b ≠ g ∧ some d.b ≠ v.ownBlock := by
        intro d hd
        have hv : some d.b ≠ v.ownBlock := by
          rcases hown with ⟨rfl, _, _⟩ | ⟨g', cap', rfl, hS⟩
          · simp [Value.ownBlock]
          · simp only [Value.ownBlock, ne_eq, Option.some.injEq]
            exact S.ne_of hS.nodup hd
        refine ⟨fun e => ?_, hv⟩
        have h5' : some g = v.ownBlock ∨ some g = some w.heap.size := h5
        rcases h5' with h5 | h5
        · exact hv (by rw [e]; exact h5)
        · have := hbase.own_lt hd
          rw [e] at this
          simp only [Option.some.injEq] at h5
          omega
      have hHg : ∀ b u, H b = some u → b ≠ g ∧ some b ≠ v.ownBlock := by
        intro b u hb
        have hv : some b ≠ v.ownBlock := by
          rcases hown with ⟨rfl, _, _⟩ | ⟨g', cap', rfl, hS⟩
          · simp [Value.ownBlock]
          · simp only [Value.ownBlock, ne_eq, Option.some.injEq]
            rintro rfl
            have := hS.free _ List.mem_cons_self
            rw [show (growRow b cap' e size xs).b = b from rfl, hb] at this
            cases this
        refine ⟨fun e => ?_, hv⟩
        have h5' : some g = v.ownBlock ∨ some g = some w.heap.size := h5
        rcases h5' with h5 | h5
        · exact hv (by rw [e]; exact h5)
        · have := hbase.lt hb
          rw [e] at this
          simp only [Option.some.injEq] at h5
          omega
      refine ⟨h3.os.trans hbase.os, h3.tape.trans hbase.tape, h3.output.trans hbase.output, fun b u hb => hrest b u (hbase.snap b u hb) (hHg b u hb).2, ?_, ?_, ?_⟩
      · intro d hd
        rcases List.mem_cons.1 hd with rfl | hd
        · refine ⟨_, hg, cur, rfl, by rw [List.length_append]; exact hc1, hc2, hc3, ?_⟩
          rw [List.length_append, List.flatten_append]
          exact hc4
        · obtain ⟨u, hu, hk⟩ := hbase.own d hd
          exact ⟨u, hrest d.b u hu (hgne d hd).2, hk⟩
      · intro d hd
        rcases List.mem_cons.1 hd with rfl | hd
        · cases hH : H g with
          | none => exact hH
          | some u => exact absurd rfl (hHg g u hH).1
        · exact hbase.free d hd
      · rw [List.map_cons]
        refine List.nodup_cons.2 ⟨fun hm => ?_, hbase.nodup⟩
        obtain ⟨d, hd, e⟩ := List.mem_map.1 hm
        exact (hgne d hd).1 e
  exact ⟨v', w', hrun, hSO⟩
section
variable {ops : Array Oper} {rest : List Oper} {o : Oper} {a : Act} {Q : Exit → Act → World → Prop}
/-- An append whose run is known. -/
theorem wpList_append_run_S {e size : Nat} {xs : List (List Value)} (hgd : o.guard = none) (s x : Operand) (t u : TypeId) (ho : o.op = .call { callee := .builtin .append, args := #[s, x], argTypes := #[t, u] }) (v y : Value) (hs : a.eval s = v) (hx : a.eval x = y)
    (hr : ∃ v' w', (Builtin.append_ #[t, u] o.type #[v, y]).run P w = .ok v' w' ∧ SO w0 H w' e size v' xs L)
    (h : ∀ v' w', SO w0 H w' e size v' xs L → wpList P ops Q rest (a.put o.dst v') w') : wpList P ops Q (o :: rest) a w := by
  obtain ⟨v', w', hrun, hSO⟩ := hr
  refine wpList_plain hgd fun K hK => ?_
  unfold Oper.wp execOp
  simp only [ho, resolve, invoke, builtin, Sem.run_bind, Sem.run_pure, Result.andThen_ok, List.map_toArray, List.map_cons, List.map_nil, hs, hx, hrun]
  exact hK _ _ (h v' w' hSO)
end
#print axioms run_append_many
#print axioms run_append_str
end
end Go.Proofs.Bc

namespace Go.Proofs.Bc
open Go Go.RowKit
variable {P : Program}

theorem wpAny_inv {ops : Array Oper} {Q : Exit → Act → World → Prop} (hedge : ∀ (i : Nat) (o : Oper), ops[i]? = some o → ∀ e, e ∈ o.after.toList → Region.binds .any e = true → e.on < i)
    (I : Array Bool → Act → World → Prop)
    (hstep : ∀ listed a w i, listed.size = ops.size → I listed a w → i ∈ Region.ready .any ops listed → listed.getD i false = false → i < ops.size → wpOp P ops Q i (I (listed.setIfInBounds i true)) a w)
    (hend : ∀ listed a w, listed.size = ops.size → I listed a w → (∀ j, j < ops.size → listed.getD j false = true) → Q .normal a w) :
    ∀ (fuel : Nat) (listed : Array Bool) (a : Act) (w : World), listed.size = ops.size → listed.toList.countP (fun b => !b) ≤ fuel → I listed a w → wpAny P .any ops Q fuel listed a w := by
  have hgetD : ∀ {listed : Array Bool} {i : Nat}, listed.size = ops.size → i < ops.size → listed.getD i true = listed.getD i false := fun {listed i} hs hi => by
    rw [Array.getD_eq_getD_getElem?, Array.getD_eq_getD_getElem?, Array.getElem?_eq_getElem (by omega)]; rfl
  have hnone : ∀ {listed : Array Bool}, listed.size = ops.size → Region.ready .any ops listed = [] → ∀ j, j < ops.size → listed.getD j false = true := by
    intro listed hs hr j
    induction j using Nat.strongRecOn with
    | _ j ih =>
      intro hj
      cases hc : listed.getD j false with
      | true => rfl
      | false =>
        have : j ∈ Region.ready .any ops listed := mem_ready.2 ⟨by rw [hgetD hs hj]; exact hc, ops[j], Array.getElem?_eq_getElem hj, fun e he hb => by
          have := hedge j _ (Array.getElem?_eq_getElem hj) e (Array.mem_toList_iff.2 he) hb
          exact ih e.on this (by omega)⟩
        rw [hr] at this
        cases this
  intro fuel
  induction fuel with
  | zero =>
    intro listed a w hs hf hI
    have hall : ∀ j, j < ops.size → listed.getD j false = true := fun j hj => by
      have h0 : listed.toList.countP (fun b => !b) = 0 := by omega
      rw [List.countP_eq_zero] at h0
      have := h0 listed[j] (Array.mem_toList_iff.2 (Array.getElem_mem (by omega)))
      rw [Array.getD_eq_getD_getElem?, Array.getElem?_eq_getElem (by omega)]
      simpa using this
    refine ⟨?_, hend _ _ _ hs hI hall⟩
    rw [List.eq_nil_iff_forall_not_mem]
    intro j hj
    obtain ⟨h0, o, ho, _⟩ := mem_ready.1 hj
    have hjl : j < ops.size := (Array.getElem?_eq_some_iff.1 ho).1
    rw [hgetD hs hjl, hall j hjl] at h0
    cases h0
  | succ fuel ih =>
    intro listed a w hs hf hI
    refine ⟨fun hr => hend _ _ _ hs hI (hnone hs hr), fun i hi => ?_⟩
    obtain ⟨h0, o, ho, _⟩ := mem_ready.1 hi
    have hil : i < ops.size := (Array.getElem?_eq_some_iff.1 ho).1
    have h0' := h0
    rw [hgetD hs hil] at h0'
    refine wpOp_mono (fun a' w' hI' => ih _ a' w' (by simpa using hs) ?_ hI') (hstep listed a w i hs hI hi h0' hil)
    have hlf : listed[i]'(by omega) = false := by
      rw [Array.getD_eq_getD_getElem?, Array.getElem?_eq_getElem (by omega)] at h0; exact h0
    rw [Array.toList_setIfInBounds, List.countP_set (by simpa [hs] using hil)]
    have hpos : 0 < listed.toList.countP (fun b => !b) := List.countP_pos_iff.2 ⟨false, by rw [← hlf]; exact Array.mem_toList_iff.2 (Array.getElem_mem _), rfl⟩
    rw [Array.getElem_toList, hlf]
    simp only [Bool.not_false, if_true, Bool.not_true, Bool.false_eq_true, if_false]
    omega

/-- What is asked of the text. -/
def phiT (l : List Oper) (m n : Nat) : Bool :=
  (l.zipIdx.all fun x => x.1.after.toList.all fun e => decide (e.on < x.2)) &&
  decide (dstsOf (l.take m)).Nodup && ((dstsOf (l.take m)).all fun d => decide (d < n)) && decide (m ≤ l.length) &&
  (List.range l.length).all fun i => decide (i < m) || (List.range i).all fun j => bitOf (masksX l []) i j

theorem wp_region_phi_t {id : Nat} {w0 w : World} {H0 : Snap} {L : List Chunk} {a0 : Act} {Q : Exit → Act → World → Prop} (l : List Oper) (m : Nat) (hm : P.follows .mixedOrders = true) (hB : phiT l m a0.tmps.size = true)
    (hS : S w0 H0 w L) (Φ : Nat → Snap → Value → Prop) (hmono : ∀ i H H' v, i < m → H.Sub H' → Φ i H v → Φ i H' v)
    (hstep : ∀ (i : Nat) (o : Oper), i < m → l[i]? = some o → ∀ (H : Snap) (w : World) (a : Act) (vs : Nat → Value), H0.Sub H → S w0 H w L → (∀ t, t ∉ dstsOf (l.take m) → a.eval (.tmp t) = a0.eval (.tmp t)) →
      (∀ j, bitOf (masksX l []) i j = true → ∀ (oj : Oper) (d : Tmp), l[j]? = some oj → oj.dst = some d → a.tmps[d]? = some (vs j) ∧ Φ j H (vs j)) →
      (Region.wanted o (yielded l.toArray a.tmps) = true ∧ phiUpon P w0 L H (Φ i) ((execOp a.eval o).run P w)) ∨ (Region.wanted o (yielded l.toArray a.tmps) = false ∧ Φ i H undef))
    (hend : ∀ (H : Snap) (w : World) (vs : Nat → Value), H0.Sub H → S w0 H w L → (∀ i, i < m → Φ i H (vs i)) → wpList P l.toArray Q (l.drop m) (putAll (l.take m) vs 0 a0) w) :
    (Code.region id l.toArray true).wp P Q a0 w := by
  simp only [phiT, Bool.and_eq_true, List.all_eq_true, decide_eq_true_eq, List.mem_range, Bool.or_eq_true] at hB
  obtain ⟨⟨⟨⟨hB1, hnd⟩, hlt⟩, hml⟩, hB5⟩ := hB
  obtain ⟨_, _, hmask0⟩ := masksX_spec l []
  simp only [List.length_nil, Nat.zero_add] at hmask0
  have hedge : ∀ (i : Nat) (o : Oper), l.toArray[i]? = some o → ∀ e, e ∈ o.after.toList → Region.binds .any e = true → e.on < i := fun i o hi e he _ => by
    have hi' : l[i]? = some o := by simpa using hi
    exact hB1 (o, i) (by rw [List.mem_zipIdx_iff_getElem?]; exact hi') e he
  have hready : ∀ {listed : Array Bool} {i : Nat}, Closed (masksX l []) listed → i ∈ Region.ready .any l.toArray listed → ∀ j, bitOf (masksX l []) i j = true → listed.getD j false = true := by
    intro listed i hc hi j hj
    obtain ⟨_, o, ho, he⟩ := mem_ready.1 hi
    obtain ⟨e, hem, hb, hh⟩ := hmask0 i o (by simpa using ho) j hj
    have hl := he e (Array.mem_toList_iff.1 hem) hb
    rcases hh with rfl | ⟨_, hh⟩
    · exact hl
    · exact hc _ _ hl hh
  have hclosed : ∀ {listed : Array Bool} {i : Nat}, Closed (masksX l []) listed → i ∈ Region.ready .any l.toArray listed → i < listed.size → Closed (masksX l []) (listed.setIfInBounds i true) := by
    intro listed i hc hi hs a b ha hb
    rw [getD_set_iff hs] at ha ⊢
    rcases ha with rfl | ha
    · exact .inr (hready hc hi b hb)
    · exact .inr (hc a b ha hb)
  have htail : ∀ i, m ≤ i → i < l.length → ∀ j, j < i → bitOf (masksX l []) i j = true := fun i h1 h2 j h3 => by
    rcases hB5 i h2 with h | h
    · omega
    · exact h j h3
  refine wp_region_any hm ?_
  have fin : ∀ listed a w H vs, H0.Sub H → S w0 H w L → PhiInv l m a0 Φ H vs listed a → (∀ j, j < m → listed.getD j false = true) → wpList P l.toArray Q (l.drop m) a w := by
    intro listed a w H vs hsub hSw hI hall
    have ha := hI.all hall hml hnd (fun d hd => hlt d hd)
    rw [ha]
    exact hend H w vs hsub hSw (fun i hi => hI.phi i hi (hall i hi))
  have allOr : ∀ (listed : Array Bool), (∀ j, j < m → listed.getD j false = true) ∨ ∃ j, j < m ∧ listed.getD j false = false := fun listed => by
    by_cases h : ∃ j, j < m ∧ listed.getD j false = false
    · exact .inr h
    · exact .inl fun j hj => by
        cases hc : listed.getD j false with
        | true => rfl
        | false => exact absurd ⟨j, hj, hc⟩ h
  refine wpAny_inv hedge (fun listed a w => Closed (masksX l []) listed ∧
      ((∃ H vs, H0.Sub H ∧ S w0 H w L ∧ PhiInv l m a0 Φ H vs listed a ∧ (∀ j, m ≤ j → listed.getD j false = false) ∧ ∃ j, j < m ∧ listed.getD j false = false) ∨
       (∃ q, m ≤ q ∧ q ≤ l.length ∧ (∀ j, j < q → listed.getD j false = true) ∧ (∀ j, q ≤ j → listed.getD j false = false) ∧ wpList P l.toArray Q (l.drop q) a w))) ?_ ?_ _ _ _ _ (by simp) (by
      have := List.countP_le_length (p := fun b => !b) (l := (Array.replicate l.toArray.size false).toList)
      simpa using this) ?_
  · intro listed a w i hs hIn hi hi0 hil
    obtain ⟨hcl, hIn⟩ := hIn
    have hls : listed.size = l.length := by simpa using hs
    have hil' : i < l.length := by simpa using hil
    have hpre := hready hcl hi
    have hcl' := hclosed hcl hi (by omega)
    have hset := fun j => getD_set_iff (j := j) (listed := listed) (i := i) (by omega)
    rcases hIn with ⟨H, vs, hsub, hSw, hI, hno, k, hk, hk0⟩ | ⟨q, hmq, hq, hall, hno, h⟩
    · have him : i < m := by
        rcases Nat.lt_or_ge i m with h | h
        · exact h
        · have := hpre k (htail i h hil' k (by omega))
          rw [hk0] at this; cases this
      have ho' : l[i]? = some l[i] := List.getElem?_eq_getElem hil'
      have hst := hstep i l[i] him ho' H w a vs hsub hSw (fun t ht => eval_congr (hI.old t fun j oj hj hj2 hj3 hd => ht (List.mem_filterMap.2 ⟨oj, List.mem_of_getElem? (by rw [List.getElem?_take_of_lt hj]; exact hj2), hd⟩))) (fun j hj oj d hoj hd => by
        have hjl := hpre j hj
        have hjm : j < m := by
          rcases Nat.lt_or_ge j m with h | h
          · exact h
          · rw [hno j h] at hjl; cases hjl
        exact ⟨hI.set j oj d hjm hoj hjl hd, hI.phi j hjm hjl⟩)
      have next : ∀ H' v w', H.Sub H' → S w0 H' w' L → Φ i H' v → PhiInv l m a0 Φ H' (fun j => if j = i then v else vs j) (listed.setIfInBounds i true) (a.put l[i].dst v) := by
        intro H' v w' hs' hSw' hphi
        have hdi : ∀ d, l[i].dst = some d → d ∈ dstsOf (l.take m) := fun d hd => List.mem_filterMap.2 ⟨l[i], List.mem_of_getElem? (by rw [List.getElem?_take_of_lt him]; exact ho'), hd⟩
        have hap : ∀ (j : Nat) (oj : Oper) (d : Tmp), j < m → l[j]? = some oj → oj.dst = some d → l[i].dst = some d → j = i := fun j oj d hj hoj hd hd' =>
          filterMap_apart (l.take m) j i oj l[i] d hnd (by rw [List.getElem?_take_of_lt hj]; exact hoj) (by rw [List.getElem?_take_of_lt him]; exact ho') hd hd'
        refine ⟨by rw [put_defers]; exact hI.defers, by rw [put_size]; exact hI.size, fun j oj d hj hoj hl hd => ?_, fun t ht => ?_, fun j hj hl => ?_⟩
        · rcases (hset j).1 hl with rfl | hl2
          · rw [ho'] at hoj
            cases hoj
            rw [if_pos rfl, hd]
            exact put_same _ _ _ (by rw [hI.size]; exact hlt d (hdi d hd))
          · by_cases e : j = i
            · rw [e, hi0] at hl2; cases hl2
            · rw [if_neg e, put_ne _ _ _ _ (fun h => e (hap j oj d hj hoj hd h))]
              exact hI.set j oj d hj hoj hl2 hd
        · rw [put_ne _ _ _ _ (ht i l[i] him ho' ((hset i).2 (.inl rfl)))]
          exact hI.old t fun j oj hj hoj hl => ht j oj hj hoj ((hset j).2 (.inr hl))
        · rcases (hset j).1 hl with rfl | hl
          · rw [if_pos rfl]; exact hphi
          · by_cases e : j = i
            · subst e
              rw [if_pos rfl]; exact hphi
            · rw [if_neg e]; exact hmono j H H' _ hj hs' (hI.phi j hj hl)
      have hno' : ∀ j, m ≤ j → (listed.setIfInBounds i true).getD j false = false := fun j hj => by rw [getD_set_ne _ (by omega)]; exact hno j hj
      have nextK : ∀ H' v w', H.Sub H' → S w0 H' w' L → Φ i H' v → (Closed (masksX l []) (listed.setIfInBounds i true) ∧
          ((∃ H vs, H0.Sub H ∧ S w0 H w' L ∧ PhiInv l m a0 Φ H vs (listed.setIfInBounds i true) (a.put l[i].dst v) ∧ (∀ j, m ≤ j → (listed.setIfInBounds i true).getD j false = false) ∧ ∃ j, j < m ∧ (listed.setIfInBounds i true).getD j false = false) ∨
          (∃ q, m ≤ q ∧ q ≤ l.length ∧ (∀ j, j < q → (listed.setIfInBounds i true).getD j false = true) ∧ (∀ j, q ≤ j → (listed.setIfInBounds i true).getD j false = false) ∧ wpList P l.toArray Q (l.drop q) (a.put l[i].dst v) w'))) := by
        intro H' v w' hs' hSw' hphi
        refine ⟨hcl', ?_⟩
        have hI' := next H' v w' hs' hSw' hphi
        rcases allOr (listed.setIfInBounds i true) with hall | hex
        · exact .inr ⟨m, Nat.le_refl _, hml, hall, hno', fin _ _ _ H' _ (hsub.trans hs') hSw' hI' hall⟩
        · exact .inl ⟨H', _, hsub.trans hs', hSw', hI', hno', hex⟩
      unfold wpOp
      rw [show l.toArray[i]? = some l[i] by simp]
      dsimp only
      rcases hst with ⟨hw, hph⟩ | ⟨hw, hph⟩
      · rw [if_pos hw]
        exact .inl (phi_wp hph (fun H' v w' h1 h2 h3 => nextK H' v w' h1 h2 h3))
      · rw [hw, if_neg (by decide)]
        exact nextK H undef w (Snap.Sub.refl _) hSw hph
    · have hiq : i = q := by
        rcases Nat.lt_trichotomy i q with h | h | h
        · rw [hall i h] at hi0; cases hi0
        · exact h
        · have := hpre q (htail i (by omega) hil' q h)
          rw [hno q (Nat.le_refl _)] at this; cases this
      subst hiq
      have hdrop : l.drop i = l[i] :: l.drop (i + 1) := List.drop_eq_getElem_cons hil'
      rw [hdrop, wpList] at h
      have nextK : ∀ a w, wpList P l.toArray Q (l.drop (i + 1)) a w → (Closed (masksX l []) (listed.setIfInBounds i true) ∧
          ((∃ H vs, H0.Sub H ∧ S w0 H w L ∧ PhiInv l m a0 Φ H vs (listed.setIfInBounds i true) a ∧ (∀ j, m ≤ j → (listed.setIfInBounds i true).getD j false = false) ∧ ∃ j, j < m ∧ (listed.setIfInBounds i true).getD j false = false) ∨
          (∃ q, m ≤ q ∧ q ≤ l.length ∧ (∀ j, j < q → (listed.setIfInBounds i true).getD j false = true) ∧ (∀ j, q ≤ j → (listed.setIfInBounds i true).getD j false = false) ∧ wpList P l.toArray Q (l.drop q) a w))) := by
        intro a w h
        refine ⟨hcl', .inr ⟨i + 1, by omega, by omega, fun j hj => (hset j).2 ?_, fun j hj => ?_, h⟩⟩
        · rcases Nat.lt_or_ge j i with h | h
          · exact .inr (hall j h)
          · exact .inl (by omega)
        · rw [getD_set_ne _ (by omega)]; exact hno j (by omega)
      unfold wpOp
      rw [show l.toArray[i]? = some l[i] by simp]
      dsimp only
      split
      · rename_i hw
        rw [if_pos hw] at h
        rcases h with h | h
        · exact .inl (Oper.wp_mono nextK h)
        · exact .inr h
      · rename_i hw
        rw [if_neg hw] at h
        exact nextK _ _ h
  · intro listed a w hs hIn hall
    obtain ⟨_, ⟨_, _, _, _, _, _, k, hk, hk0⟩ | ⟨q, hmq, hq, _, hno, h⟩⟩ := hIn
    · rw [hall k (by simp; omega)] at hk0; cases hk0
    · have hqs : q = l.length := by
        rcases Nat.lt_or_ge q l.length with h | h
        · have := hall q (by simpa using h)
          rw [hno q (Nat.le_refl _)] at this; cases this
        · omega
      subst hqs
      rw [List.drop_length] at h
      exact h
  · have hf : ∀ (n j : Nat), (Array.replicate n false).getD j false = false := fun n j => by
      rw [Array.getD_eq_getD_getElem?, Array.getElem?_replicate]; split <;> rfl
    have hS' : S w0 H0 { w with drawn := w.drawn + 1 } L := hS.drew
    have hI0 : PhiInv l m a0 Φ H0 (fun _ => undef) (Array.replicate l.toArray.size false) a0 := ⟨rfl, rfl, fun j _ _ _ _ h => by rw [hf] at h; (cases h), fun _ _ => rfl, fun j _ h => by rw [hf] at h; (cases h)⟩
    refine ⟨fun i j h => by rw [hf] at h; (cases h), ?_⟩
    rcases allOr (Array.replicate l.toArray.size false) with hall | hex
    · exact .inr ⟨m, Nat.le_refl _, hml, hall, fun j _ => hf _ j, fin _ _ _ H0 _ (Snap.Sub.refl _) hS' hI0 hall⟩
    · exact .inl ⟨H0, _, Snap.Sub.refl _, hS', hI0, fun j _ => hf _ j, hex⟩
#print axioms wp_region_phi_t
end Go.Proofs.Bc

namespace Go.Proofs.Bc
open Go Go.RowKit
variable {w0 w : World} {H : Snap} {L : List Chunk} {e size : Nat} {v : Value} {xs : List (List Value)}
/-- The slice's block, told by itself. -/
theorem SO.both (h : SO w0 H w e size v xs L) : ∃ C : List Chunk, S w0 H w (C ++ L) ∧ ∀ w' H' L', S w0 H' w' (C ++ L') → SO w0 H' w' e size v xs L' := by
  rcases h with ⟨h1, h2, h3⟩ | ⟨g, cap, h1, h2⟩
  · exact ⟨[], h3, fun w' H' L' h => .inl ⟨h1, h2, h⟩⟩
  · exact ⟨[_], h2, fun w' H' L' h => .inr ⟨g, cap, h1, h⟩⟩
theorem SO.weaken {L' : List Chunk} (h : SO w0 H w e size v xs L) (hs : L'.Sublist L) : SO w0 H w e size v xs L' := by
  obtain ⟨C, h1, h2⟩ := h.both
  exact h2 _ _ _ (h1.weaken ((List.Sublist.refl C).append hs))
/-- An own slice as what is appended. -/
theorem SO.src (h : SO w0 H w e size v xs L) (hx : ∀ x, x ∈ xs → x.length = size) (hp : 0 < xs.length) : ∃ ad c, v = .slice (some ad) xs.length c ∧ ∀ j u, xs.flatten[j]? = some u → w.cell? (ad.add j) = some u := by
  have hr := h.ownsRow hx
  rcases h with ⟨h1, h2, h3⟩ | ⟨g, cap, rfl, h2⟩
  · subst h2; simp at hp
  · exact ⟨_, _, rfl, hr.cells (g := g) rfl⟩
theorem SO.srcAt (h : SO w0 H w e size v xs L) (hx : ∀ x, x ∈ xs → x.length = size) (hp : 0 < xs.length) (m : Nat) (hm : xs.length = m) : ∃ ad c, v = .slice (some ad) m c ∧ ∀ j u, xs.flatten[j]? = some u → w.cell? (ad.add j) = some u := hm ▸ h.src hx hp
theorem run_append_at {P : Program} {t ty : TypeId} {bytes : Nat} {z : Value} (hown : SO w0 H w e size v xs L) (hxs : ∀ x, x ∈ xs → x.length = size) (ht : P.underlying t = some (.slice e))
    (hinfo : (P.info? e).map (fun i => (i.zero, i.size, i.bytes)) = some (some z, size, bytes)) (hzs : z.cells.size = size) (hsz : 0 < size)
    (ad : Addr) (c : Nat) (ys : List (List Value)) (m : Nat) (hm : ys.length = m) (hys : ∀ y, y ∈ ys → y.length = size) (hpos : 0 < ys.length) (hnews : ∀ j u, ys.flatten[j]? = some u → w.cell? (ad.add j) = some u) (h1 : ∀ u, u ∈ ys.flatten → u.oneCell' = true)
    (h63 : xs.length + ys.length ≤ maxLen) (hbytes : (xs.length + ys.length) * bytes ≤ 140737488355328) :
    ∃ v' w', (Builtin.append_ #[t, t] ty #[v, .slice (some ad) m c]).run P w = .ok v' w' ∧ SO w0 H w' e size v' (xs ++ ys) L :=
  hm ▸ run_append_many hown hxs ht hinfo hzs hsz ad c ys hys hpos hnews h1 h63 hbytes
/-- What a callee that owns nothing of ours leaves of our slice. -/
theorem SO.swap {v2 : Value} {ys : List (List Value)} {e2 size2 : Nat} {C : List Chunk} (h : SO w0 H w e2 size2 v2 ys (C ++ L)) (hb : ∀ w' H' L', S w0 H' w' (C ++ L') → SO w0 H' w' e size v xs L') :
    ∃ D, SO w0 H w e size v xs (D ++ L) := by
  obtain ⟨D, h1, h2⟩ := h.both
  refine ⟨D, hb _ _ _ (h1.perm ?_)⟩
  rw [← List.append_assoc, ← List.append_assoc]
  exact List.perm_append_comm.append_right L
#print axioms SO.swap
end Go.Proofs.Bc

namespace Go.Proofs.Bc
open Go Go.RowKit

theorem device_lit {w0 w : World} {H : Snap} {L : List Chunk} (hS : S w0 H w L) (k : UInt8) :
    Calls Tryz.prog 5 #[.int .u8 k.toNat] w fun e w' => e = .returned (.agg #[.int .u8 9, .int .u8 k.toNat, .int .u8 0, .int .u8 0, .int .u8 0, .int .u8 0, .int .u8 0, .int .u8 0, .int .u8 0, .int .u8 0, .int .u8 0, .int .u8 0, .int .u8 0, .int .u8 0, .int .u8 0, .int .u8 0]) ∧ S w0 H w' L :=
  (device_any hS k).mono fun _ _ h => ⟨h.1, h.2⟩

theorem S.less {w0 w : World} {H H' : Snap} {L : List Chunk} (h : S w0 H' w L) (hs : H.Sub H') : S w0 H w L := by
  refine ⟨h.os, h.tape, h.output, fun b o hb => h.snap b o (hs b o hb), h.own, fun c hc => ?_, h.nodup⟩
  cases e : H c.b with
  | none => rfl
  | some o =>
    have := hs _ _ e
    rw [h.free c hc] at this
    cases this
theorem rd_one {α : Type} {H : Snap} {k G : Nat} {enc : α → List Value} {x : α} {cs : Array Value} {t : TypeId} {fr : Nat × Nat} (hG : H G = some (.cells cs t fr)) (he : enc x = cs.toList) : Rd H k enc (.slice (some ⟨G, 0, none⟩) 1 1) [x] := by
  refine ⟨some ⟨G, 0, none⟩, 1, rfl, Nat.le_refl _, by decide, fun _ => ⟨G, 0, rfl, fun i y hy j u hu => ?_⟩⟩
  cases i with
  | succ i => simp at hy
  | zero =>
    simp only [List.getElem?_cons_zero, Option.some.injEq] at hy
    subst hy
    rw [he] at hu
    show cellOf (H G) ⟨G, 0 + 0 * k + j, none⟩ = some u
    rw [hG]
    simpa [cellOf] using hu
theorem phi_value {P : Program} {w0 w w' : World} {L : List Chunk} {H H' : Snap} {Φ : Snap → Value → Prop} {ρ : Operand → Value} {o : Oper} {v : Value} (hr : (execOp ρ o).run P w = .ok (.value v) w') (hs : H.Sub H') (hS : S w0 H' w' L) (hp : Φ H' v) : phiUpon P w0 L H Φ ((execOp ρ o).run P w) := by
  rw [hr]; exact ⟨H', hs, hS, hp⟩
theorem phi_enter {P : Program} {w0 w w' : World} {L : List Chunk} {H : Snap} {Φ : Snap → Value → Prop} {ρ : Operand → Value} {o : Oper} {f : FuncId} {args : Array Value} (hr : (execOp ρ o).run P w = .ok (.enter f args) w')
    (h : Calls P f args w' fun e w'' => ∃ v, e = .returned v ∧ ∃ H', H.Sub H' ∧ S w0 H' w'' L ∧ Φ H' v) : phiUpon P w0 L H Φ ((execOp ρ o).run P w) := by
  rw [hr]; exact h
theorem dep_eval {a : Act} {d : Tmp} {v u : Value} (h : a.tmps[d]? = some v ∧ v = u) : a.eval (.tmp d) = u := (getD_eval h.1).trans h.2

theorem less_cmpB : ∀ (x y : List UInt8), Lib.compareBytes x y < 0 → Op.bytesLess x y = true
  | [], [], h => by simp [Lib.compareBytes] at h
  | [], _ :: _, _ => rfl
  | _ :: _, [], h => by simp [Lib.compareBytes] at h
  | a :: x, b :: y, h => by
    unfold Lib.compareBytes at h
    unfold Op.bytesLess
    by_cases h1 : a < b
    · simp [h1]
    · rw [if_neg h1] at h
      by_cases h2 : b < a
      · rw [if_pos h2] at h; omega
      · rw [if_neg h2] at h
        have hab : a = b := by
          rw [UInt8.lt_iff_toNat_lt] at h1 h2
          exact UInt8.toNat_inj.1 (by omega)
        simp [hab, less_cmpB x y h]
theorem less_cmp {x y : Dig} (h : cmpDig x y < 0) : Op.bytesLess x.1 y.1 = true := less_cmpB _ _ h
/-- string(d[:]). -/
theorem conv_dig {w0 w : World} {H H' : Snap} {L : List Chunk} {b off : Nat} {d : Dig} (hS : S w0 H' w L) (hs : H.Sub H') (h : ∀ (j : Nat) u, d.cells[j]? = some u → H.cell ⟨b, off + j, none⟩ = some u) :
    (convert 22 9 (.slice (some ⟨b, off, none⟩) 16 16)).run Tryz.prog w = .ok (.string ⟨d.1.toArray⟩) w := by
  have := run_convert_bytes_back (P := Tryz.prog) w 22 9 5 ⟨b, off, none⟩ 16 d.1 (by kernel_rfl) (by kernel_rfl) (by kernel_rfl) (fun j hj => by
    rw [addr_add]
    exact hS.cell (Snap.cell_of hs (h j _ (d.byte (List.getElem?_eq_getElem hj)))))
  rw [d.2] at this
  exact this

theorem run_append_empty {P : Program} {w : World} {t ty e : TypeId} {i : TypeInfo} (ht : P.underlying t = some (.slice e)) (hi : P.info? e = some i) (g : Nat) (a : Option Addr) (c : Nat) :
    (Builtin.append_ #[t, t] ty #[.slice (some ⟨g, 0, none⟩) 1 1, .slice a 0 c]).run P w = .ok (.slice (some ⟨g, 0, none⟩) 1 1) w := by
  cases a <;> simp [Builtin.append_, run_underlying ht, sizeOf, typeInfo, hi, Builtin.lenOf, Builtin.firstCells, storeCells, loadCells, loadCellsFrom]

/-- append(first, moves...): first is a literal of one. -/
theorem append_first {w0 w : World} {H : Snap} (hS : S w0 H w []) {mv : Mv} {cs : Array Value} (hcs : cs.toList = mv.cells) {vm : Value} {ms : List Mv} (hm : Rd H 33 Mv.cells vm ms) (hl : ms.length ≤ 1000) :
    ∃ v' w', (Builtin.append_ #[32, 32] 32 #[.slice (some ⟨w.heap.size, 0, none⟩) 1 1, vm]).run Tryz.prog (w.alloc (.cells cs 34)) = .ok v' w' ∧ SO w0 H w' 34 33 v' ((mv :: ms).map Mv.cells) [] := by
  have hu : Tryz.prog.underlying 32 = some (.slice 34) := by kernel_rfl
  have hinf : ((Tryz.prog.info? 34).map (fun i => (i.zero, i.size, i.bytes)) = some (some (.agg (#[.int .i64 0] ++ Array.replicate 32 (.int .u8 0))), 33, 40)) := by kernel_rfl
  have hsz : cs.size = 33 := by rw [← Array.length_toList, hcs]; exact mv.cells_length
  have hown : SO w0 H (w.alloc (.cells cs 34)) 34 33 (.slice (some ⟨w.heap.size, 0, none⟩) 1 1) [mv.cells] [] :=
    .inr ⟨w.heap.size, 1, rfl, (hS.alloc _).imp fun o ho => ⟨cs, ho, Nat.le_refl _, by decide, by rw [hsz], by
      rw [hcs]
      simp only [List.length_singleton, Nat.one_mul, List.flatten_cons, List.flatten_nil, List.append_nil]
      exact List.take_of_length_le (by rw [mv.cells_length]; exact Nat.le_refl _)⟩⟩
  have hx : ∀ x, x ∈ [mv.cells] → x.length = 33 := fun x h => by rw [List.mem_singleton.1 h]; exact mv.cells_length
  obtain ⟨a, c, rfl, _, _, hr⟩ := hm
  rcases Nat.eq_zero_or_pos ms.length with h0 | hp
  · have : ms = [] := List.length_eq_zero_iff.1 h0
    subst this
    obtain ⟨i, hi, _⟩ := Option.map_eq_some_iff.1 hinf
    exact ⟨_, _, run_append_empty hu hi _ _ _, hown⟩
  · obtain ⟨b, off, rfl, hcell⟩ := hr hp
    have hall : ∀ y, y ∈ ms.map Mv.cells → y.length = 33 := fun y hy => by obtain ⟨m, _, rfl⟩ := List.mem_map.1 hy; exact m.cells_length
    have hflat := flatten_len 33 (ms.map Mv.cells) hall
    rw [List.length_map] at hflat
    refine run_append_at (xs := [mv.cells]) hown hx hu hinf rfl (by decide) ⟨b, off, none⟩ c (ms.map Mv.cells) ms.length (List.length_map _) hall (by rw [List.length_map]; exact hp) (fun j u hj => ?_) (fun u hj => ?_) ?_ ?_
    · have hjl : j < ms.length * 33 := by rw [← hflat]; exact (List.getElem?_eq_some_iff.1 hj).1
      have hq : j / 33 < ms.length := by omega
      have hcl : j % 33 < (ms[j / 33].cells).length := by rw [Mv.cells_length]; omega
      have hz : (ms.map Mv.cells)[j / 33]? = some ms[j / 33].cells := by rw [List.getElem?_map, List.getElem?_eq_getElem hq]; rfl
      have hg := flatten_get 33 (ms.map Mv.cells) hall (j / 33) (j % 33) _ _ hz (List.getElem?_eq_getElem hcl)
      rw [show j / 33 * 33 + j % 33 = j by omega, hj] at hg
      have hc := hcell (j / 33) _ (List.getElem?_eq_getElem hq) (j % 33) _ (List.getElem?_eq_getElem hcl)
      rw [show off + j / 33 * 33 + j % 33 = off + j by omega, ← hg] at hc
      rw [addr_add]
      exact ((hS.alloc _).drop).cell hc
    · obtain ⟨y, hy, hu2⟩ := List.mem_flatten.1 hj
      obtain ⟨m, _, rfl⟩ := List.mem_map.1 hy
      exact m.one u hu2
    · have : (1001 : Nat) ≤ maxLen := by decide
      simp only [List.length_singleton, List.length_map]; omega
    · simp only [List.length_singleton, List.length_map]; omega

theorem wrap_next (s : Int) : s ≠ wrap64 (s + 1) := by
  unfold wrap64
  omega

set_option maxRecDepth 100000 in
set_option maxHeartbeats 4000000 in
theorem law_any (w : World) (hw : SanOK w) (s : Int) (vr : Value) (route : List UInt8) (ek : UInt8) (hv : Rd (snapOf w) 1 bcell vr route) :
    Calls Tryz.prog 3 #[.int .i64 s, vr, .int .u8 ek.toNat] w fun e w' => e = .returned (.bool true) ∧ S w (snapOf w) w' [] := by
  obtain ⟨ar, cr, rfl, _hc1, _hc2, hr⟩ := hv
  have hS0 := S_start w
  generalize hH : snapOf w = H at hr hS0
  have Hs := asid (sanity_any w hw)
  clear hH hw
  go_enter Tryz.func3, Tryz.ntmps3
  by_cases hlong : (20 : Int) < (route.length : Int)
  · go_wp2_with (first | (go_at_call 4; refine Hs.out.mono ?_; rintro e1 w1 ⟨rfl, hg⟩; have HS1 := asid (Grown.S hS0 hg); clear hg))
    go_ret
    exact ⟨rfl, HS1.out⟩
  · by_cases hzero : (route.length : Int) = 0
    · go_wp2_with (first | (go_at_call 4; refine Hs.out.mono ?_; rintro e1 w1 ⟨rfl, hg⟩; have HS1 := asid (Grown.S hS0 hg); clear hg))
      go_ret
      exact ⟨rfl, HS1.out⟩
    · obtain ⟨b, off, rfl, hcell⟩ := hr (by omega)
      have Hcell := asid hcell
      clear hcell hr
      have h0 : 0 < route.length := by omega
      have hl0 : (0 : Int) < (route.length : Int) := by omega
      have hz2 : ((route.length : Int) == 0) = false := by simpa using hzero
      have Hlen := asid (show route.length ≤ 20 by omega)
      have He0 := asid (List.getElem?_eq_getElem h0)
      have Hr0 := asid (show route = route[0] :: route.tail from by cases route with | nil => simp at h0 | cons a r => rfl)
      generalize hx0 : route[0] = x0 at He0 Hr0
      clear hx0
      go_wp2_with (first | (go_at_call 4; refine Hs.out.mono ?_; rintro e1 w1 ⟨rfl, hg⟩; have HS1 := asid (Grown.S hS0 hg); clear hg) | (refine wpList_load_one rfl _ _ rfl rfl (.int .u8 x0.toNat) (fun _ => by kernel_rfl) (by simpa using S.elem HS1.out He0.out Hcell.out _ ⟨0, rfl⟩ 0 _ rfl) ?_) | (go_at_call 5; refine (device_lit HS1.out x0).mono ?_; rintro e2 w2 ⟨rfl, h2⟩; have HS2 := asid h2; clear h2))
      have hA := HS2.out.alloc (.cells #[.int .i64 s, .int .u8 9, .int .u8 x0.toNat, .int .u8 0, .int .u8 0, .int .u8 0, .int .u8 0, .int .u8 0, .int .u8 0, .int .u8 0, .int .u8 0, .int .u8 0, .int .u8 0, .int .u8 0, .int .u8 0, .int .u8 0, .int .u8 0, .string ⟨#[97, 110, 121]⟩, .slice none 0 0, .slice none 0 0] 30)
      obtain ⟨hsub, hB⟩ := S.freeze_row hA
      have hG : (H.put w2.heap.size (.cells #[.int .i64 s, .int .u8 9, .int .u8 x0.toNat, .int .u8 0, .int .u8 0, .int .u8 0, .int .u8 0, .int .u8 0, .int .u8 0, .int .u8 0, .int .u8 0, .int .u8 0, .int .u8 0, .int .u8 0, .int .u8 0, .int .u8 0, .int .u8 0, .string ⟨#[97, 110, 121]⟩, .slice none 0 0, .slice none 0 0] 30)) w2.heap.size = some _ := Snap.put_same _ _ _
      have HG := asid (rd_one (k := 20) (enc := Gr.cells) (x := grOf s x0) hG rfl)
      have Hsub := asid hsub
      clear hG hsub hA
      generalize H.put w2.heap.size _ = H1 at HG Hsub hB
      generalize World.alloc w2 _ = w3 at hB ⊢
      generalize w2.heap.size = G at HG ⊢
      have HB := asid hB
      clear hB
      have hlen20 : (route.length : Int) ≤ 20 := by omega
      have hlen1 : 1 ≤ route.length := by omega
      go_loopg [9, 10] route.length (fun g' s9 s10 wr => ∃ kk : Nat, 1 ≤ kk ∧ kk ≤ route.length ∧ route.length - kk ≤ g' ∧ s10 = .int .i64 kk ∧ SO w H1 wr 34 33 s9 (((movesOf s route).take (kk - 1)).map Mv.cells) [])
      case atStart => exact ⟨1, Nat.le_refl _, hlen1, by omega, rfl, SO.nil _ _ HB.out⟩
      case round =>
        obtain ⟨kk, hk1, hkk, hgk, rfl, hSO⟩ := hrel
        by_cases hlt : kk < route.length
        · have hltz : (kk : Int) < (route.length : Int) := by omega
          have HSO := asid hSO
          clear hSO
          go_wp2_with fail
          obtain ⟨C, hC, hback⟩ := HSO.out.both
          have hx : route[kk - 1]? = some (route[kk - 1]'(by omega)) := List.getElem?_eq_getElem (by omega)
          have hy : route[kk]? = some route[kk] := List.getElem?_eq_getElem hlt
          have hmv := movesOf_get s route (i := kk - 1) (by omega)
          have hcx : H1.cell ⟨b, off + (kk - 1), none⟩ = some (.int .u8 (route[kk - 1]'(by omega)).toNat) := by
            have := Snap.cell_of Hsub.out (Hcell.out (kk - 1) _ hx 0 _ rfl)
            simpa using this
          have hcy : H1.cell ⟨b, off + kk, none⟩ = some (.int .u8 route[kk].toNat) := by
            have := Snap.cell_of Hsub.out (Hcell.out kk _ hy 0 _ rfl)
            simpa using this
          have hk2 : route[kk - 1 + 1]'(by omega) = route[kk] := by congr 1; omega
          rw [hk2] at hmv
          generalize route[kk - 1]'(by omega) = x at hmv hcx
          generalize route[kk] = y at hmv hcy
          have Hmv := asid hmv
          clear hx hy hmv hk2
          refine wp_region_phi_t _ 15 (by kernel_rfl) (by kernel_rfl) hC (fun i Hh v => match i with
            | 0 => v = u9
            | 1 => v = .int .i64 s
            | 2 => v = (.slice (some ⟨b, off, none⟩) route.length cr)
            | 3 => v = .int .i64 kk
            | 4 => v = .int .i64 (kk - 1 : Nat)
            | 5 => v = .pointer (some ⟨b, off + (kk - 1), none⟩)
            | 6 => v = .int .u8 x.toNat
            | 7 => v = (.agg #[.int .u8 9, .int .u8 x.toNat, .int .u8 0, .int .u8 0, .int .u8 0, .int .u8 0, .int .u8 0, .int .u8 0, .int .u8 0, .int .u8 0, .int .u8 0, .int .u8 0, .int .u8 0, .int .u8 0, .int .u8 0, .int .u8 0])
            | 8 => v = (.slice (some ⟨b, off, none⟩) route.length cr)
            | 9 => v = .int .i64 kk
            | 10 => v = .pointer (some ⟨b, off + kk, none⟩)
            | 11 => v = .int .u8 y.toNat
            | 12 => v = (.agg #[.int .u8 9, .int .u8 y.toNat, .int .u8 0, .int .u8 0, .int .u8 0, .int .u8 0, .int .u8 0, .int .u8 0, .int .u8 0, .int .u8 0, .int .u8 0, .int .u8 0, .int .u8 0, .int .u8 0, .int .u8 0, .int .u8 0])
            | 13 => v = .agg #[.int .i64 s, .int .u8 9, .int .u8 x.toNat, .int .u8 0, .int .u8 0, .int .u8 0, .int .u8 0, .int .u8 0, .int .u8 0, .int .u8 0, .int .u8 0, .int .u8 0, .int .u8 0, .int .u8 0, .int .u8 0, .int .u8 0, .int .u8 0, .int .u8 9, .int .u8 y.toNat, .int .u8 0, .int .u8 0, .int .u8 0, .int .u8 0, .int .u8 0, .int .u8 0, .int .u8 0, .int .u8 0, .int .u8 0, .int .u8 0, .int .u8 0, .int .u8 0, .int .u8 0, .int .u8 0]
            | 14 => ∃ g, v = .slice (some ⟨g, 0, none⟩) 1 1 ∧ Hh g = some (.cells #[.int .i64 s, .int .u8 9, .int .u8 x.toNat, .int .u8 0, .int .u8 0, .int .u8 0, .int .u8 0, .int .u8 0, .int .u8 0, .int .u8 0, .int .u8 0, .int .u8 0, .int .u8 0, .int .u8 0, .int .u8 0, .int .u8 0, .int .u8 0, .int .u8 9, .int .u8 y.toNat, .int .u8 0, .int .u8 0, .int .u8 0, .int .u8 0, .int .u8 0, .int .u8 0, .int .u8 0, .int .u8 0, .int .u8 0, .int .u8 0, .int .u8 0, .int .u8 0, .int .u8 0, .int .u8 0] 34)
            | _ => True) ?mono ?step ?fin
          case mono =>
            intro i Ha Hb v hi hs hp
            match i, hi with
            | 14, _ => obtain ⟨g, h1, h2⟩ := hp; exact ⟨g, h1, hs _ _ h2⟩
            | 0, _ => exact hp
            | 1, _ => exact hp
            | 2, _ => exact hp
            | 3, _ => exact hp
            | 4, _ => exact hp
            | 5, _ => exact hp
            | 6, _ => exact hp
            | 7, _ => exact hp
            | 8, _ => exact hp
            | 9, _ => exact hp
            | 10, _ => exact hp
            | 11, _ => exact hp
            | 12, _ => exact hp
            | 13, _ => exact hp
          case step =>
            intro i o hi ho Hn wn a vs hsn hSn hold hd
            have id_ := Snap.Sub.refl Hn
            match i, hi, ho with
            | 0, _, ho =>
              cases ho
              have e9 : a.eval (.tmp 9) = u9 := (hold 9 (by decide)).trans rfl
              exact .inl ⟨rfl, phi_value (by simp [execOp, e9]) id_ hSn rfl⟩
            | 1, _, ho =>
              cases ho
              have e0 : a.eval (.tmp 0) = .int .i64 s := (hold 0 (by decide)).trans rfl
              exact .inl ⟨rfl, phi_value (by simp [execOp, e0]) id_ hSn rfl⟩
            | 2, _, ho =>
              cases ho
              have e1 : a.eval (.tmp 1) = (.slice (some ⟨b, off, none⟩) route.length cr) := (hold 1 (by decide)).trans rfl
              exact .inl ⟨rfl, phi_value (by simp [execOp, e1]) id_ hSn rfl⟩
            | 3, _, ho =>
              cases ho
              have e10 : a.eval (.tmp 10) = .int .i64 kk := (hold 10 (by decide)).trans rfl
              exact .inl ⟨rfl, phi_value (by simp [execOp, e10]) id_ hSn rfl⟩
            | 4, _, ho =>
              cases ho
              have e42 : a.eval (.tmp 42) = .int .i64 kk := dep_eval (hd 3 (by kernel_rfl) _ _ rfl rfl)
              refine .inl ⟨rfl, phi_value ?_ id_ hSn rfl⟩
              simp only [execOp, e42, BigFrame.eval_const]
              simp [go_sem]
              rw [show ((kk - 1 : Nat) : Int) = (kk : Int) - 1 by omega]
              exact IntWalk.i64_in _ (by omega)
            | 5, _, ho =>
              cases ho
              have e41 : a.eval (.tmp 41) = (.slice (some ⟨b, off, none⟩) route.length cr) := dep_eval (hd 2 (by kernel_rfl) _ _ rfl rfl)
              have e43 : a.eval (.tmp 43) = .int .i64 (kk - 1 : Nat) := dep_eval (hd 4 (by kernel_rfl) _ _ rfl rfl)
              refine .inl ⟨rfl, phi_value ?_ id_ hSn rfl⟩
              simp only [execOp, e41, e43]
              simp [go_sem]
              intro hbad
              omega
            | 6, _, ho =>
              cases ho
              have e44 : a.eval (.tmp 44) = .pointer (some ⟨b, off + (kk - 1), none⟩) := dep_eval (hd 5 (by kernel_rfl) _ _ rfl rfl)
              have hc := hSn.cell (Snap.cell_of hsn hcx)
              refine .inl ⟨rfl, phi_value ?_ id_ hSn rfl⟩
              simp only [execOp, e44]
              simp [go_sem, hc]
            | 7, _, ho =>
              cases ho
              have e45 : a.eval (.tmp 45) = .int .u8 x.toNat := dep_eval (hd 6 (by kernel_rfl) _ _ rfl rfl)
              refine .inl ⟨rfl, phi_enter (f := 5) (args := #[.int .u8 x.toNat]) (w' := wn) ?_ ((device_lit hSn x).mono ?_)⟩
              · simp only [execOp, resolve, List.map_toArray, List.map_cons, List.map_nil, e45, BigFrame.eval_func, Deferred.ofValue, Sem.run_bind, Sem.run_pure, Result.andThen, invoke]
                exact run_callFunc_body device_body _ _
              · rintro e wd ⟨rfl, hwd⟩
                exact ⟨_, rfl, Hn, id_, hwd, rfl⟩
            | 8, _, ho =>
              cases ho
              have e1 : a.eval (.tmp 1) = (.slice (some ⟨b, off, none⟩) route.length cr) := (hold 1 (by decide)).trans rfl
              exact .inl ⟨rfl, phi_value (by simp [execOp, e1]) id_ hSn rfl⟩
            | 9, _, ho =>
              cases ho
              have e10 : a.eval (.tmp 10) = .int .i64 kk := (hold 10 (by decide)).trans rfl
              exact .inl ⟨rfl, phi_value (by simp [execOp, e10]) id_ hSn rfl⟩
            | 10, _, ho =>
              cases ho
              have e47 : a.eval (.tmp 47) = (.slice (some ⟨b, off, none⟩) route.length cr) := dep_eval (hd 8 (by kernel_rfl) _ _ rfl rfl)
              have e48 : a.eval (.tmp 48) = .int .i64 kk := dep_eval (hd 9 (by kernel_rfl) _ _ rfl rfl)
              refine .inl ⟨rfl, phi_value ?_ id_ hSn rfl⟩
              simp only [execOp, e47, e48]
              simp [go_sem]
              intro hbad
              omega
            | 11, _, ho =>
              cases ho
              have e49 : a.eval (.tmp 49) = .pointer (some ⟨b, off + kk, none⟩) := dep_eval (hd 10 (by kernel_rfl) _ _ rfl rfl)
              have hc := hSn.cell (Snap.cell_of hsn hcy)
              refine .inl ⟨rfl, phi_value ?_ id_ hSn rfl⟩
              simp only [execOp, e49]
              simp [go_sem, hc]
            | 12, _, ho =>
              cases ho
              have e50 : a.eval (.tmp 50) = .int .u8 y.toNat := dep_eval (hd 11 (by kernel_rfl) _ _ rfl rfl)
              refine .inl ⟨rfl, phi_enter (f := 5) (args := #[.int .u8 y.toNat]) (w' := wn) ?_ ((device_lit hSn y).mono ?_)⟩
              · simp only [execOp, resolve, List.map_toArray, List.map_cons, List.map_nil, e50, BigFrame.eval_func, Deferred.ofValue, Sem.run_bind, Sem.run_pure, Result.andThen, invoke]
                exact run_callFunc_body device_body _ _
              · rintro e wd ⟨rfl, hwd⟩
                exact ⟨_, rfl, Hn, id_, hwd, rfl⟩
            | 13, _, ho =>
              cases ho
              have e40 : a.eval (.tmp 40) = .int .i64 s := dep_eval (hd 1 (by kernel_rfl) _ _ rfl rfl)
              have e46 : a.eval (.tmp 46) = (.agg #[.int .u8 9, .int .u8 x.toNat, .int .u8 0, .int .u8 0, .int .u8 0, .int .u8 0, .int .u8 0, .int .u8 0, .int .u8 0, .int .u8 0, .int .u8 0, .int .u8 0, .int .u8 0, .int .u8 0, .int .u8 0, .int .u8 0]) := dep_eval (hd 7 (by kernel_rfl) _ _ rfl rfl)
              have e51 : a.eval (.tmp 51) = (.agg #[.int .u8 9, .int .u8 y.toNat, .int .u8 0, .int .u8 0, .int .u8 0, .int .u8 0, .int .u8 0, .int .u8 0, .int .u8 0, .int .u8 0, .int .u8 0, .int .u8 0, .int .u8 0, .int .u8 0, .int .u8 0, .int .u8 0]) := dep_eval (hd 12 (by kernel_rfl) _ _ rfl rfl)
              refine .inl ⟨rfl, phi_value ?_ id_ hSn rfl⟩
              simp only [execOp, List.map_toArray, List.map_cons, List.map_nil, e40, e46, e51]
              simp [go_sem]
            | 14, _, ho =>
              cases ho
              have e52 : a.eval (.tmp 52) = .agg #[.int .i64 s, .int .u8 9, .int .u8 x.toNat, .int .u8 0, .int .u8 0, .int .u8 0, .int .u8 0, .int .u8 0, .int .u8 0, .int .u8 0, .int .u8 0, .int .u8 0, .int .u8 0, .int .u8 0, .int .u8 0, .int .u8 0, .int .u8 0, .int .u8 9, .int .u8 y.toNat, .int .u8 0, .int .u8 0, .int .u8 0, .int .u8 0, .int .u8 0, .int .u8 0, .int .u8 0, .int .u8 0, .int .u8 0, .int .u8 0, .int .u8 0, .int .u8 0, .int .u8 0, .int .u8 0] := dep_eval (hd 13 (by kernel_rfl) _ _ rfl rfl)
              obtain ⟨hs2, hS2⟩ := S.freeze_row (hSn.alloc (.cells #[.int .i64 s, .int .u8 9, .int .u8 x.toNat, .int .u8 0, .int .u8 0, .int .u8 0, .int .u8 0, .int .u8 0, .int .u8 0, .int .u8 0, .int .u8 0, .int .u8 0, .int .u8 0, .int .u8 0, .int .u8 0, .int .u8 0, .int .u8 0, .int .u8 9, .int .u8 y.toNat, .int .u8 0, .int .u8 0, .int .u8 0, .int .u8 0, .int .u8 0, .int .u8 0, .int .u8 0, .int .u8 0, .int .u8 0, .int .u8 0, .int .u8 0, .int .u8 0, .int .u8 0, .int .u8 0] 34))
              refine .inl ⟨rfl, phi_value ?_ hs2 hS2 ⟨wn.heap.size, rfl, Snap.put_same _ _ _⟩⟩
              simp only [execOp, List.map_toArray, List.map_cons, List.map_nil, e52]
              simp [go_sem]
          case fin =>
            intro Hh wh vs hsh hSh hphi
            have p0 : vs 0 = u9 := hphi 0 (by omega)
            obtain ⟨g, p14, hg⟩ := hphi 14 (by omega)
            have Hlast := asid (hback _ _ _ (hSh.less hsh))
            have hcells : ∀ (j : Nat) u, (Mv.cells ⟨s, devD x, devD y⟩)[j]? = some u → wh.cell? ((⟨g, 0, none⟩ : Addr).add j) = some u := by
              intro j u hj
              have hj2 : (#[.int .i64 s, .int .u8 9, .int .u8 x.toNat, .int .u8 0, .int .u8 0, .int .u8 0, .int .u8 0, .int .u8 0, .int .u8 0, .int .u8 0, .int .u8 0, .int .u8 0, .int .u8 0, .int .u8 0, .int .u8 0, .int .u8 0, .int .u8 0, .int .u8 9, .int .u8 y.toNat, .int .u8 0, .int .u8 0, .int .u8 0, .int .u8 0, .int .u8 0, .int .u8 0, .int .u8 0, .int .u8 0, .int .u8 0, .int .u8 0, .int .u8 0, .int .u8 0, .int .u8 0, .int .u8 0] : Array Value)[j]? = some u := by rw [← Array.getElem?_toList]; exact hj
              refine hSh.cell ?_
              rw [addr_add]
              show cellOf (Hh g) ⟨g, 0 + j, none⟩ = some u
              rw [hg, Nat.zero_add]
              exact hj2
            have hu : Tryz.prog.underlying 32 = some (.slice 34) := by kernel_rfl
            have hinf : ((Tryz.prog.info? 34).map (fun i => (i.zero, i.size, i.bytes)) = some (some (.agg (#[.int .i64 0] ++ Array.replicate 32 (.int .u8 0))), 33, 40)) := by kernel_rfl
            simp only [List.drop, List.take, putAll, Act.put, List.setIfInBounds_toArray, List.set_cons_succ, List.set_cons_zero]
            have Bl : (((movesOf s route).take (kk - 1)).map Mv.cells).length = kk - 1 := by
              rw [List.length_map, List.length_take, movesOf_length]; omega
            have hbig : (1000 : Nat) ≤ maxLen := by decide
            refine wpList_append_S rfl (.tmp 39) (.tmp 53) 32 rfl _ 40 hu hinf rfl (by decide) ((rfl : _ = vs 0).trans p0) Hlast.out (fun z hz => by obtain ⟨m, _, rfl⟩ := List.mem_map.1 hz; exact m.cells_length) ⟨g, 0, none⟩ 1 (Mv.cells ⟨s, devD x, devD y⟩) ((rfl : _ = vs 14).trans p14) (Mv.cells_length _) hcells (Mv.one _) (by rw [Bl]; omega) (by rw [Bl]; omega) ?_
            intro v' w' hS'
            have HS' := asid hS'
            clear hS'
            go_wp2
            go_roundg (route.length - (kk + 1))
            case measure => omega
            case rel =>
              refine ⟨kk + 1, by omega, by omega, by omega, by go_num, ?_⟩
              have ht : (movesOf s route).take (kk + 1 - 1) = (movesOf s route).take (kk - 1) ++ [⟨s, devD x, devD y⟩] := by
                rw [show kk + 1 - 1 = kk - 1 + 1 by omega, List.take_add_one, Hmv.out]; rfl
              rw [ht, List.map_append]
              exact HS'.out
        · have hltz : ¬ (kk : Int) < (route.length : Int) := by omega
          have : kk = route.length := by omega
          subst this
          have htk : (movesOf s route).take (route.length - 1) = movesOf s route := by
            rw [← movesOf_length s route, List.take_length]
          rw [htk] at hSO
          obtain ⟨H2, hs2, hS2, hRd2⟩ := SO.freeze hSO Mv.cells_length
          have HG2 := asid (HG.out.sub hs2)
          have HM := asid hRd2
          have HS3 := asid hS2
          have Hsub2 := asid (Hsub.out.trans hs2)
          clear hSO hs2 hS2 hRd2 htk hgk hkk hk1 HG Hsub
          have Hml := asid (show (movesOf s route).length ≤ 1000 by have := Hlen.out; rw [movesOf_length]; omega)
          have Hhc := asid (show holders [grOf s x0] (movesOf s route) s = held route by rw [Hr0.out]; exact holders_chain s x0 _)
          go_wp2_with (first | (go_at_call 6; refine (Holders_any HS3.out _ _ [grOf s x0] (movesOf s route) s HG2.out HM.out (by simp) Hml.out).mono ?_; rintro e4 w4 ⟨v4, rfl, h4⟩; have H4 := asid h4; clear h4))
          obtain ⟨H3, hs3, hS3, hRd3⟩ := SO.freeze H4.out Dig.cells_length
          rw [Hhc.out] at hRd3
          have HG3 := asid (HG2.out.sub hs3)
          have HM3 := asid (HM.out.sub hs3)
          have HL3 := asid hRd3
          have HS4 := asid hS3
          have Hsub3 := asid (Hsub2.out.trans hs3)
          clear hs3 hS3 hRd3 HG2 HM Hsub2 H4 HS3
          go_loopg [12] route.length (fun g' s12 wr => ∃ kk : Nat, kk ≤ route.length ∧ route.length - kk ≤ g' ∧ s12 = .int .i64 kk ∧ S w H3 wr [])
          case atStart => exact ⟨0, Nat.zero_le _, by omega, rfl, HS4.out⟩
          case round =>
            obtain ⟨kk, hkk, hgk, rfl, hSr⟩ := hrel
            by_cases hlt : kk < route.length
            · have hltz : (kk : Int) < (route.length : Int) := by omega
              have hy : route[kk]? = some route[kk] := List.getElem?_eq_getElem hlt
              have Hcy := asid (fun (wn : World) (hn : S w H3 wn []) => hn.cell (Snap.cell_of Hsub3.out (Hcell.out kk _ hy 0 _ rfl)))
              have Hin := asid (mem_held (List.getElem_mem hlt))
              clear hy
              generalize route[kk] = y at Hcy Hin
              have HSr := asid hSr
              clear hSr
              go_wp2_with (first | (refine wpList_load_one rfl _ _ rfl rfl (.int .u8 y.toNat) (fun _ => by kernel_rfl) (by simpa using Hcy.out _ HSr.out) ?_) | (go_at_call 5; refine (device_any HSr.out y).mono ?_; rintro e5 w5 ⟨rfl, h5⟩; have HS5 := asid h5; clear h5) | (go_at_call 7; refine (In_any HS5.out _ _ (devD y) HL3.out (by have := held_length route; have := Hlen.out; omega)).mono ?_; rintro e6 w6 ⟨rfl, h6⟩; have HS6 := asid h6; clear h6; rw [decide_eq_true Hin.out]))
              go_roundg (route.length - (kk + 1))
              case measure => omega
              case rel => exact ⟨kk + 1, by omega, by omega, by go_num, HS6.out⟩
            · have hltz : ¬ (kk : Int) < (route.length : Int) := by omega
              have : kk = route.length := by omega
              subst this
              have HS5 := asid hSr
              clear hSr hgk hkk
              obtain ⟨a4, c4, rfl, _hd1, _hd2, hr4⟩ := HL3.out
              have Hr4 := asid hr4
              have Hsorted := asid (held_sorted route)
              have Hn4 := asid (show (held route).length ≤ 20 from Nat.le_trans (held_length route) Hlen.out)
              have Hfin2 := asid (show ∀ e, holders [grOf s x0] (⟨s, two 8 e, two 7 0⟩ :: movesOf s route) s = held route from fun e => by rw [Hr0.out]; exact holders_early s x0 e _)
              clear hr4
              generalize held route = ls at HL3 Hr4 Hsorted Hn4 Hfin2 _hd1 ⊢
              go_wp2
              have hn4 : (ls.length : Int) ≤ 20 := by have := Hn4.out; omega
              go_loopg [13] ls.length (fun g' s13 wr => ∃ kk : Nat, 1 ≤ kk ∧ kk ≤ ls.length + 1 ∧ ls.length - kk ≤ g' ∧ s13 = .int .i64 kk ∧ S w H3 wr [])
              case atStart => exact ⟨1, Nat.le_refl _, by omega, by omega, rfl, HS5.out⟩
              case round =>
                obtain ⟨kk, hk1, hkk, hgk, rfl, hSr⟩ := hrel
                by_cases hlt : kk < ls.length
                · have hltz : (kk : Int) < (ls.length : Int) := by omega
                  obtain ⟨b4, off4, rfl, hcell4⟩ := Hr4.out (by omega)
                  have hord := List.pairwise_iff_getElem.1 Hsorted.out (kk - 1) kk (by omega) hlt (by omega)
                  have hcx := hcell4 (kk - 1) _ (List.getElem?_eq_getElem (by omega))
                  have hcy := hcell4 kk _ (List.getElem?_eq_getElem hlt)
                  generalize ls[kk - 1]'(by omega) = x at hord hcx
                  generalize ls[kk] = y at hord hcy
                  go_wp2_with fail
                  refine wp_region_phi_t _ 12 (by kernel_rfl) (by kernel_rfl) hSr (fun i _ v => match i with
                    | 0 => v = .slice (some ⟨b4, off4, none⟩) ls.length c4
                    | 1 => v = .int .i64 kk
                    | 2 => v = .int .i64 (kk - 1 : Nat)
                    | 3 => v = .pointer (some ⟨b4, off4 + (kk - 1) * 16, none⟩)
                    | 4 => v = .slice (some ⟨b4, off4 + (kk - 1) * 16, none⟩) 16 16
                    | 5 => v = .string ⟨x.1.toArray⟩
                    | 6 => v = .slice (some ⟨b4, off4, none⟩) ls.length c4
                    | 7 => v = .int .i64 kk
                    | 8 => v = .pointer (some ⟨b4, off4 + kk * 16, none⟩)
                    | 9 => v = .slice (some ⟨b4, off4 + kk * 16, none⟩) 16 16
                    | 10 => v = .string ⟨y.1.toArray⟩
                    | 11 => v = .bool false
                    | _ => True) ?mono ?step ?fin
                  case mono => exact fun i Ha Hb v hi hs hp => hp
                  case step =>
                    intro i o hi ho Hn wn a vs hsn hSn hold hd
                    have id_ := Snap.Sub.refl Hn
                    match i, hi, ho with
                    | 0, _, ho =>
                      cases ho
                      have e11 : a.eval (.tmp 11) = .slice (some ⟨b4, off4, none⟩) ls.length c4 := (hold 11 (by decide)).trans rfl
                      exact .inl ⟨rfl, phi_value (by simp [execOp, e11]) id_ hSn rfl⟩
                    | 1, _, ho =>
                      cases ho
                      have e13 : a.eval (.tmp 13) = .int .i64 kk := (hold 13 (by decide)).trans rfl
                      exact .inl ⟨rfl, phi_value (by simp [execOp, e13]) id_ hSn rfl⟩
                    | 2, _, ho =>
                      cases ho
                      have e80 : a.eval (.tmp 80) = .int .i64 kk := dep_eval (hd 1 (by kernel_rfl) _ _ rfl rfl)
                      refine .inl ⟨rfl, phi_value ?_ id_ hSn rfl⟩
                      simp only [execOp, e80, BigFrame.eval_const]
                      simp [go_sem]
                      rw [show ((kk - 1 : Nat) : Int) = (kk : Int) - 1 by omega]
                      exact IntWalk.i64_in _ (by omega)
                    | 3, _, ho =>
                      cases ho
                      have e79 : a.eval (.tmp 79) = .slice (some ⟨b4, off4, none⟩) ls.length c4 := dep_eval (hd 0 (by kernel_rfl) _ _ rfl rfl)
                      have e81 : a.eval (.tmp 81) = .int .i64 (kk - 1 : Nat) := dep_eval (hd 2 (by kernel_rfl) _ _ rfl rfl)
                      refine .inl ⟨rfl, phi_value ?_ id_ hSn rfl⟩
                      simp only [execOp, e79, e81]
                      simp [go_sem]
                      intro hbad
                      omega
                    | 4, _, ho =>
                      cases ho
                      have e82 : a.eval (.tmp 82) = .pointer (some ⟨b4, off4 + (kk - 1) * 16, none⟩) := dep_eval (hd 3 (by kernel_rfl) _ _ rfl rfl)
                      refine .inl ⟨rfl, phi_value ?_ id_ hSn rfl⟩
                      simp only [execOp, e82]
                      simp [go_sem]
                    | 5, _, ho =>
                      cases ho
                      have e83 : a.eval (.tmp 83) = .slice (some ⟨b4, off4 + (kk - 1) * 16, none⟩) 16 16 := dep_eval (hd 4 (by kernel_rfl) _ _ rfl rfl)
                      refine .inl ⟨rfl, phi_value ?_ id_ hSn rfl⟩
                      simp only [execOp, e83]
                      simp [go_sem]
                      rw [conv_dig hSn (Snap.Sub.trans hsn id_) hcx]
                      rfl
                    | 6, _, ho =>
                      cases ho
                      have e11 : a.eval (.tmp 11) = .slice (some ⟨b4, off4, none⟩) ls.length c4 := (hold 11 (by decide)).trans rfl
                      exact .inl ⟨rfl, phi_value (by simp [execOp, e11]) id_ hSn rfl⟩
                    | 7, _, ho =>
                      cases ho
                      have e13 : a.eval (.tmp 13) = .int .i64 kk := (hold 13 (by decide)).trans rfl
                      exact .inl ⟨rfl, phi_value (by simp [execOp, e13]) id_ hSn rfl⟩
                    | 8, _, ho =>
                      cases ho
                      have e85 : a.eval (.tmp 85) = .slice (some ⟨b4, off4, none⟩) ls.length c4 := dep_eval (hd 6 (by kernel_rfl) _ _ rfl rfl)
                      have e86 : a.eval (.tmp 86) = .int .i64 kk := dep_eval (hd 7 (by kernel_rfl) _ _ rfl rfl)
                      refine .inl ⟨rfl, phi_value ?_ id_ hSn rfl⟩
                      simp only [execOp, e85, e86]
                      simp [go_sem]
                      intro hbad
                      omega
                    | 9, _, ho =>
                      cases ho
                      have e87 : a.eval (.tmp 87) = .pointer (some ⟨b4, off4 + kk * 16, none⟩) := dep_eval (hd 8 (by kernel_rfl) _ _ rfl rfl)
                      refine .inl ⟨rfl, phi_value ?_ id_ hSn rfl⟩
                      simp only [execOp, e87]
                      simp [go_sem]
                    | 10, _, ho =>
                      cases ho
                      have e88 : a.eval (.tmp 88) = .slice (some ⟨b4, off4 + kk * 16, none⟩) 16 16 := dep_eval (hd 9 (by kernel_rfl) _ _ rfl rfl)
                      refine .inl ⟨rfl, phi_value ?_ id_ hSn rfl⟩
                      simp only [execOp, e88]
                      simp [go_sem]
                      rw [conv_dig hSn (Snap.Sub.trans hsn id_) hcy]
                      rfl
                    | 11, _, ho =>
                      cases ho
                      have e84 : a.eval (.tmp 84) = .string ⟨x.1.toArray⟩ := dep_eval (hd 5 (by kernel_rfl) _ _ rfl rfl)
                      have e89 : a.eval (.tmp 89) = .string ⟨y.1.toArray⟩ := dep_eval (hd 10 (by kernel_rfl) _ _ rfl rfl)
                      refine .inl ⟨rfl, phi_value ?_ id_ hSn rfl⟩
                      simp only [execOp, e84, e89]
                      simp [go_sem]
                      exact less_cmp hord
                  case fin =>
                    intro Hh wh vs hsh hSh hphi
                    have p11 : vs 11 = .bool false := hphi 11 (by omega)
                    have HSh := asid (hSh.less hsh)
                    simp only [List.drop, List.take, putAll, Act.put, List.setIfInBounds_toArray, List.set_cons_succ, List.set_cons_zero, p11]
                    go_wp2
                    go_roundg (ls.length - (kk + 1))
                    case measure => omega
                    case rel => exact ⟨kk + 1, by omega, by omega, by omega, by go_num, HSh.out⟩
                · have hltz : ¬ (kk : Int) < (ls.length : Int) := by omega
                  have HS6 := asid hSr
                  clear hSr hgk hkk hk1 hlt
                  have HRUN := asid (append_first HS6.out (mv := ⟨s, two 8 ek, two 7 0⟩) (cs := #[.int .i64 s, .int .u8 8, .int .u8 ek.toNat, .int .u8 0, .int .u8 0, .int .u8 0, .int .u8 0, .int .u8 0, .int .u8 0, .int .u8 0, .int .u8 0, .int .u8 0, .int .u8 0, .int .u8 0, .int .u8 0, .int .u8 0, .int .u8 0, .int .u8 7, .int .u8 0, .int .u8 0, .int .u8 0, .int .u8 0, .int .u8 0, .int .u8 0, .int .u8 0, .int .u8 0, .int .u8 0, .int .u8 0, .int .u8 0, .int .u8 0, .int .u8 0, .int .u8 0, .int .u8 0]) rfl HM3.out Hml.out)
                  have Hother := asid (holders_other s _ (wrap_next s) x0 route)
                  go_wp2_with (first | (at_builtin; refine wpList_append_run_S rfl _ _ 32 32 rfl _ _ rfl rfl HRUN.out ?_; intro v7 w7 h7; obtain ⟨H7, hs7, hS7, hR7⟩ := SO.freeze h7 Mv.cells_length; have HS7 := asid hS7; have HG7 := asid (HG3.out.sub hs7); have HM7 := asid hR7; have HN7 := asid (HM3.out.sub hs7); have HL7 := asid (HL3.out.sub hs7); have Hsub7 := asid (Snap.Sub.trans Hsub3.out hs7); clear h7 hs7 hS7 hR7) | (go_at_call 6; refine (Holders_any HS7.out _ _ [grOf s x0] (⟨s, two 8 ek, two 7 0⟩ :: movesOf s route) s HG7.out HM7.out (by simp) (by have := Hlen.out; rw [List.length_cons, movesOf_length]; omega)).mono ?_; rintro e8 w8 ⟨v8, rfl, h8⟩; have H8 := asid h8; clear h8))
                  obtain ⟨H8s, hs8, hS8, hR8⟩ := SO.freeze H8.out Dig.cells_length
                  rw [Hfin2.out ek] at hR8
                  have HS8 := asid hS8
                  have HR8 := asid hR8
                  have HG8 := asid (HG7.out.sub hs8)
                  have HN8 := asid (HN7.out.sub hs8)
                  have HL8 := asid (HL7.out.sub hs8)
                  have Hsub8 := asid (Snap.Sub.trans Hsub7.out hs8)
                  clear hs8 hS8 hR8
                  refine (Digests_any HS8.out _ _ ls ls HR8.out HL8.out (by have := Hn4.out; omega) (by have := Hn4.out; omega)).mono ?_
                  rintro e9 w9 ⟨rfl, h9⟩
                  have HS9 := asid h9
                  clear h9
                  rw [decide_eq_true (rfl : ls = ls)]
                  go_wp2_with fail
                  refine (Holders_any HS9.out _ _ [grOf s x0] (movesOf s route) (wrap64 (s + 1)) HG8.out HN8.out (by simp) Hml.out).mono ?_
                  rintro e10 w10 ⟨v10, rfl, h10⟩
                  rw [Hother.out] at h10
                  obtain ⟨a10, c10, rfl⟩ := h10.slice
                  have HS10 := asid (h10.base.less Hsub8.out)
                  clear h10
                  simp only [List.map_nil, List.length_nil]
                  go_wp2_with fail
                  go_ret
                  exact ⟨rfl, HS10.out⟩
end Go.Proofs.Bc
