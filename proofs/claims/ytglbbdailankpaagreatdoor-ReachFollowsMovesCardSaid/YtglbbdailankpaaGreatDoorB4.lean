/- A slice of the call's own that grows by append; it is read for good once nobody appends to it any more. -/
import Derived.Test.YtglbbdailankpaaGreatDoorB3
import Derived.Maps.AppendAt
namespace Go.Proofs.Bc
open Go Go.RowKit
variable {P : Program}

theorem flatten_get (size : Nat) : ∀ (xs : List (List Value)), (∀ x, x ∈ xs → x.length = size) → ∀ (i j : Nat) (x : List Value) (u : Value), xs[i]? = some x → x[j]? = some u → xs.flatten[i * size + j]? = some u
  | [], _, i, j, x, u, h, _ => by simp at h
  | y :: ys, hl, i, j, x, u, h, hj => by
    have hy := hl y List.mem_cons_self
    cases i with
    | zero =>
      simp only [List.getElem?_cons_zero, Option.some.injEq] at h
      subst h
      have := (List.getElem?_eq_some_iff.1 hj).1
      rw [List.flatten_cons, List.getElem?_append_left (by omega), Nat.zero_mul, Nat.zero_add]
      exact hj
    | succ i =>
      rw [List.flatten_cons, List.getElem?_append_right (by rw [hy, Nat.succ_mul]; omega)]
      rw [show (i + 1) * size + j - y.length = i * size + j by rw [hy, Nat.succ_mul]; omega]
      exact flatten_get size ys (fun x hx => hl x (List.mem_cons_of_mem _ hx)) i j x u (by simpa using h) hj
theorem flatten_len (size : Nat) : ∀ (xs : List (List Value)), (∀ x, x ∈ xs → x.length = size) → xs.flatten.length = xs.length * size
  | [], _ => by simp
  | y :: ys, hl => by
    rw [List.flatten_cons, List.length_append, hl y List.mem_cons_self, flatten_len size ys (fun x hx => hl x (List.mem_cons_of_mem _ hx)), List.length_cons, Nat.succ_mul]
    omega

/-- Block g is a row of elements of 'size' cells each, its first ones xs. -/
def growRow (g cap e size : Nat) (xs : List (List Value)) : Chunk :=
  ⟨g, fun o => ∃ cur, o = .cells cur e ∧ xs.length ≤ cap ∧ cap ≤ maxLen ∧ cur.size = cap * size ∧ cur.toList.take (xs.length * size) = xs.flatten⟩
/-- The slice value v is the call's own and holds xs. -/
def SO (w0 : World) (H : Snap) (w : World) (e size : Nat) (v : Value) (xs : List (List Value)) (L : List Chunk) : Prop :=
  (v = .slice none 0 0 ∧ xs = [] ∧ S w0 H w L) ∨ ∃ g cap, v = .slice (some ⟨g, 0, none⟩) xs.length cap ∧ S w0 H w (growRow g cap e size xs :: L)

section
variable {w0 w : World} {H : Snap} {L : List Chunk} {e size : Nat} {v : Value} {xs : List (List Value)}
theorem SO.nil (e size : Nat) (h : S w0 H w L) : SO w0 H w e size (.slice none 0 0) [] L := .inl ⟨rfl, rfl, h⟩
theorem SO.map {w' : World} {H' : Snap} {L' : List Chunk} (h : SO w0 H w e size v xs L) (hf : ∀ C, S w0 H w (C ++ L) → S w0 H' w' (C ++ L')) : SO w0 H' w' e size v xs L' := by
  rcases h with ⟨h1, h2, h3⟩ | ⟨g, cap, h1, h2⟩
  · exact .inl ⟨h1, h2, hf [] h3⟩
  · exact .inr ⟨g, cap, h1, hf [_] h2⟩
theorem SO.drewN (h : SO w0 H w e size v xs L) (n : Nat) : SO w0 H (w.drewN n) e size v xs L := h.map fun _ h => h.drewN n
theorem SO.below {w' : World} (h : SO w0 H w e size v xs L) (hb : Below w.heap.size w w') : SO w0 H w' e size v xs L := h.map fun _ h => h.below hb
theorem SO.garbage (h : SO w0 H w e size v xs L) (o : Obj) : SO w0 H (w.alloc o) e size v xs L := h.below ((Below.refl _ _).alloc (Nat.le_refl _) _)
theorem SO.base (h : SO w0 H w e size v xs L) : S w0 H w L := by
  rcases h with ⟨_, _, h⟩ | ⟨_, _, _, h⟩
  · exact h
  · exact h.drop
theorem SO.drop {c : Chunk} (h : SO w0 H w e size v xs (c :: L)) : SO w0 H w e size v xs L := h.map fun C h => h.weaken ((List.Sublist.refl C).append (List.sublist_cons_self _ _))
/-- A block of its own, told beside the slice. -/
theorem SO.alloc (h : SO w0 H w e size v xs L) (o : Obj) : SO w0 H (w.alloc o) e size v xs (⟨w.heap.size, fun u => u = o⟩ :: L) := h.map fun C h => by
  have h1 := h.alloc o
  exact h1.perm (by
    have : (⟨w.heap.size, fun u => u = o⟩ :: (C ++ L)).Perm (C ++ ⟨w.heap.size, fun u => u = o⟩ :: L) := List.perm_middle.symm
    exact this)
theorem SO.slice (h : SO w0 H w e size v xs L) : ∃ a c, v = .slice a xs.length c := by
  rcases h with ⟨rfl, rfl, _⟩ | ⟨g, cap, rfl, _⟩
  · exact ⟨none, 0, rfl⟩
  · exact ⟨_, cap, rfl⟩
theorem SO.ownsRow (h : SO w0 H w e size v xs L) (hx : ∀ x, x ∈ xs → x.length = size) : w.ownsRow 0 e size v xs.length xs.flatten := by
  refine ⟨flatten_len size xs hx, ?_⟩
  rcases h with ⟨rfl, rfl, _⟩ | ⟨g, cap, rfl, h⟩
  · exact .inl ⟨rfl, rfl⟩
  · obtain ⟨o, ho, cur, rfl, h1, h2, h3, h4⟩ := h.own _ List.mem_cons_self
    exact .inr ⟨g, cap, cur, rfl, Nat.zero_le _, ho, h1, h2, h3, h4⟩
/-- The slice is taken from the call's own and read for good. -/
theorem SO.freeze {α : Type} {enc : α → List Value} {zs : List α} (h : SO w0 H w e size v (zs.map enc) L) (hx : ∀ z, (enc z).length = size) : ∃ H', H.Sub H' ∧ S w0 H' w L ∧ Rd H' size enc v zs := by
  rcases h with ⟨rfl, h2, h3⟩ | ⟨g, cap, rfl, h⟩
  · have : zs = [] := by simpa using h2
    subst this
    exact ⟨H, Snap.Sub.refl _, h3, Rd.nil _ _ _⟩
  · obtain ⟨o, ⟨cur, rfl, h1, h2, h3, h4⟩, _, hs, hS⟩ := h.freeze
    refine ⟨_, hs, hS, _, cap, by rw [List.length_map], by simpa using h1, h2, fun _ => ⟨g, 0, rfl, fun i z hz j u hu => ?_⟩⟩
    show cellOf (H.put g (.cells cur e) g) ⟨g, 0 + i * size + j, none⟩ = some u
    rw [Snap.put_same]
    have hi : i < zs.length := (List.getElem?_eq_some_iff.1 hz).1
    have hj : j < size := by have := (List.getElem?_eq_some_iff.1 hu).1; rw [hx] at this; exact this
    have hg := flatten_get size (zs.map enc) (fun x hx' => by obtain ⟨z, _, rfl⟩ := List.mem_map.1 hx'; exact hx z) i j (enc z) u (by rw [List.getElem?_map, hz]; rfl) hu
    rw [← h4, List.getElem?_take_of_lt (by
      rw [List.length_map]
      calc i * size + j < i * size + size := by omega
        _ = (i + 1) * size := (Nat.succ_mul i size).symm
        _ ≤ zs.length * size := Nat.mul_le_mul_right _ hi)] at hg
    simpa [cellOf] using hg

/-- append(v, y): behind 'at_builtin'. -/
theorem wpList_append_S {ops : Array Oper} {rest : List Oper} {o : Oper} {a : Act} {Q : Exit → Act → World → Prop} (hgd : o.guard = none) (s x : Operand) (t : TypeId)
    (ho : o.op = .call { callee := .builtin .append, args := #[s, x], argTypes := #[t, t] }) (z : Value) (bytes : Nat) (ht : P.underlying t = some (.slice e))
    (hinfo : (P.info? e).map (fun i => (i.zero, i.size, i.bytes)) = some (some z, size, bytes)) (hzs : z.cells.size = size) (hsz : 0 < size)
    (hs : a.eval s = v) (hown : SO w0 H w e size v xs L) (hxs : ∀ x, x ∈ xs → x.length = size) (ad : Addr) (c : Nat) (y : List Value) (hx : a.eval x = .slice (some ad) 1 c) (hy : y.length = size)
    (hnews : ∀ j u, y[j]? = some u → w.cell? (ad.add j) = some u) (h1 : ∀ u, u ∈ y → u.oneCell' = true) (h63 : xs.length + 1 ≤ maxLen) (hbytes : (xs.length + 1) * bytes ≤ 140737488355328)
    (h : ∀ v' w', SO w0 H w' e size v' (xs ++ [y]) L → wpList P ops Q rest (a.put o.dst v') w') : wpList P ops Q (o :: rest) a w := by
  obtain ⟨i, hi, hq⟩ := Option.map_eq_some_iff.1 hinfo
  simp only [Prod.mk.injEq] at hq
  obtain ⟨hz, hsize, hby⟩ := hq
  have hr := hown.ownsRow hxs
  obtain ⟨v', w', hrun, h2, h3, _, h5⟩ := run_append_own_at (P := P) w 0 t o.type e i z size bytes ht hi hz hsize hby hzs hsz v xs.length xs.flatten hr ad 1 c y (by rw [hy, Nat.one_mul]) hnews h1 h63 hbytes (Nat.zero_le _)
  have hSO : SO w0 H w' e size v' (xs ++ [y]) L := by
    obtain ⟨_, hq⟩ := h2
    rcases hq with ⟨_, hq⟩ | ⟨g, cap, cur, rfl, _, hg, hc1, hc2, hc3, hc4⟩
    · omega
    · have hgl : g < w'.heap.size := (Array.getElem?_eq_some_iff.1 hg).1
      refine .inr ⟨g, cap, by rw [List.length_append]; rfl, ?_⟩
      -- the blocks told of, in the new world
      have hrest : ∀ (b : Nat) (u : Obj), w.heap[b]? = some u → some b ≠ v.ownBlock → w'.heap[b]? = some u := fun b u hb hne => (h3.block b (Array.getElem?_eq_some_iff.1 hb).1 hne).trans hb
      have hbase := hown.base
      have hgne : ∀ d, d ∈ L → d.b ≠ g ∧ some d.b ≠ v.ownBlock := by
        intro d hd
        have hv : some d.b ≠ v.ownBlock := by
          rcases hown with ⟨rfl, _, _⟩ | ⟨g', cap', rfl, hS⟩
          · simp [Value.ownBlock]
          · simp only [Value.ownBlock, ne_eq, Option.some.injEq]
            exact S.ne_of hS.nodup hd
        refine ⟨fun e => ?_, hv⟩
        have h5' : some g = v.ownBlock ∨ some g = some w.heap.size := h5
        rcases h5' with h5 | h5
        · exact hv (by rw [e]; exact h5)
        · have := hbase.own_lt hd
          rw [e] at this
          simp only [Option.some.injEq] at h5
          omega
      have hHg : ∀ b u, H b = some u → b ≠ g ∧ some b ≠ v.ownBlock := by
        intro b u hb
        have hv : some b ≠ v.ownBlock := by
          rcases hown with ⟨rfl, _, _⟩ | ⟨g', cap', rfl, hS⟩
          · simp [Value.ownBlock]
          · simp only [Value.ownBlock, ne_eq, Option.some.injEq]
            rintro rfl
            have := hS.free _ List.mem_cons_self
            rw [show (growRow b cap' e size xs).b = b from rfl, hb] at this
            cases this
        refine ⟨fun e => ?_, hv⟩
        have h5' : some g = v.ownBlock ∨ some g = some w.heap.size := h5
        rcases h5' with h5 | h5
        · exact hv (by rw [e]; exact h5)
        · have := hbase.lt hb
          rw [e] at this
          simp only [Option.some.injEq] at h5
          omega
      refine ⟨h3.os.trans hbase.os, h3.tape.trans hbase.tape, h3.output.trans hbase.output, fun b u hb => hrest b u (hbase.snap b u hb) (hHg b u hb).2, ?_, ?_, ?_⟩
      · intro d hd
        rcases List.mem_cons.1 hd with rfl | hd
        · refine ⟨_, hg, cur, rfl, by rw [List.length_append]; exact hc1, hc2, hc3, ?_⟩
          rw [List.length_append, List.flatten_append, List.flatten_singleton]
          exact hc4
        · obtain ⟨u, hu, hk⟩ := hbase.own d hd
          exact ⟨u, hrest d.b u hu (hgne d hd).2, hk⟩
      · intro d hd
        rcases List.mem_cons.1 hd with rfl | hd
        · cases hH : H g with
          | none => exact hH
          | some u => exact absurd rfl (hHg g u hH).1
        · exact hbase.free d hd
      · rw [List.map_cons]
        refine List.nodup_cons.2 ⟨fun hm => ?_, hbase.nodup⟩
        obtain ⟨d, hd, e⟩ := List.mem_map.1 hm
        exact (hgne d hd).1 e
  refine wpList_plain hgd fun K hK => ?_
  unfold Oper.wp execOp
  simp only [ho, resolve, invoke, builtin, Sem.run_bind, Sem.run_pure, Result.andThen_ok, List.map_toArray, List.map_cons, List.map_nil, hs, hx, hrun]
  exact hK _ _ (h v' w' hSO)
end
/-- A block that was only lent for reading is the call's own again. -/
theorem S.thaw {w0 w : World} {H : Snap} {L : List Chunk} {g : Nat} {o : Obj} (h : S w0 (H.put g o) w L) (hf : H g = none) : S w0 H w (⟨g, fun u => u = o⟩ :: L) := by
  have hsub : H.Sub (H.put g o) := Snap.Sub.put o hf
  refine ⟨h.os, h.tape, h.output, fun b u hb => h.snap b u (hsub b u hb), ?_, ?_, ?_⟩
  · intro d hd
    rcases List.mem_cons.1 hd with rfl | hd
    · exact ⟨o, h.snap g o (Snap.put_same _ _ _), rfl⟩
    · exact h.own d hd
  · intro d hd
    rcases List.mem_cons.1 hd with rfl | hd
    · exact hf
    · have := h.free d hd
      unfold Snap.put at this
      split at this
      · cases this
      · exact this
  · rw [List.map_cons]
    refine List.nodup_cons.2 ⟨fun hm => ?_, h.nodup⟩
    obtain ⟨d, hd, e⟩ := List.mem_map.1 hm
    have := h.free d hd
    rw [show d.b = g from e, Snap.put_same] at this
    cases this
#print axioms wpList_append_S
#print axioms SO.freeze
end Go.Proofs.Bc
