/- The words in which the contracts of this claim speak of memory: a snapshot of blocks that nobody writes, and a list of blocks of the call's own. -/
import Derived.WalkKit
import Derived.Deep.Draws
import Derived.Shelf.SlicesQ.Load
import Derived.Below
namespace Go.Proofs.Bc
open Go Go.RowKit

/-- What is known for good of the heap: blocks that nobody writes any more. -/
abbrev Snap := Nat → Option Obj
def cellOf (o : Option Obj) (a : Addr) : Option Value :=
  match o with
  | some (.cells c _ _) => if a.spot.isSome then none else c[a.off]?
  | _ => none
def Snap.cell (H : Snap) (a : Addr) : Option Value := cellOf (H a.block) a
def Snap.put (H : Snap) (b : Nat) (o : Obj) : Snap := fun i => if i = b then some o else H i
def Snap.Sub (H H' : Snap) : Prop := ∀ b o, H b = some o → H' b = some o

theorem Snap.Sub.refl (H : Snap) : H.Sub H := fun _ _ h => h
theorem Snap.Sub.trans {A B C : Snap} (h : A.Sub B) (k : B.Sub C) : A.Sub C := fun b o e => k b o (h b o e)
theorem Snap.Sub.put {H : Snap} {b : Nat} (o : Obj) (h : H b = none) : H.Sub (H.put b o) := fun i u e => by
  unfold Snap.put
  split
  · rename_i hi; subst hi; rw [h] at e; cases e
  · exact e
theorem Snap.put_same (H : Snap) (b : Nat) (o : Obj) : H.put b o b = some o := by simp [Snap.put]
theorem Snap.cell_of {H H' : Snap} (h : H.Sub H') {a : Addr} {v : Value} (hc : H.cell a = some v) : H'.cell a = some v := by
  unfold Snap.cell at *
  cases e : H a.block with
  | none => rw [e] at hc; cases hc
  | some o => rw [e] at hc; rw [h _ _ e]; exact hc

/-- A block of the call's own, and what is known of it. -/
structure Chunk where
  b : Nat
  ok : Obj → Prop

/-- The block b is just this row of cells. -/
abbrev row (b : Nat) (cs : Array Value) (t : TypeId) : Chunk := ⟨b, fun o => o = .cells cs t⟩

/-- The world w: streams as in w0, the snapshot H lies in it, the blocks of L are there, apart from H and from each other. -/
structure S (w0 : World) (H : Snap) (w : World) (L : List Chunk) : Prop where
  os : w.os = w0.os
  tape : w.tape = w0.tape
  output : w.output = w0.output
  snap : ∀ b o, H b = some o → w.heap[b]? = some o
  own : ∀ c, c ∈ L → ∃ o, w.heap[c.b]? = some o ∧ c.ok o
  free : ∀ c, c ∈ L → H c.b = none
  nodup : (L.map (·.b)).Nodup

theorem S.ne_of {c d : Chunk} {L : List Chunk} (h : ((c :: L).map (·.b)).Nodup) (hd : d ∈ L) : d.b ≠ c.b := by
  intro e
  rw [List.map_cons] at h
  exact (List.nodup_cons.1 h).1 (List.mem_map.2 ⟨d, hd, e⟩)

section
variable {w0 w : World} {H : Snap} {L : List Chunk}

theorem S.lt (h : S w0 H w L) {b : Nat} {o : Obj} (hb : H b = some o) : b < w.heap.size := (Array.getElem?_eq_some_iff.1 (h.snap b o hb)).1
theorem S.own_lt (h : S w0 H w L) {c : Chunk} (hc : c ∈ L) : c.b < w.heap.size := by
  obtain ⟨o, ho, _⟩ := h.own c hc
  exact (Array.getElem?_eq_some_iff.1 ho).1
theorem S.cell (h : S w0 H w L) {a : Addr} {v : Value} (hc : H.cell a = some v) : w.cell? a = some v := by
  unfold Snap.cell at hc
  cases e : H a.block with
  | none => rw [e] at hc; cases hc
  | some o =>
    have := h.snap _ _ e
    unfold World.cell?
    rw [this]
    rw [e] at hc
    cases o <;> first | exact hc | cases hc
theorem S.size_free (h : S w0 H w L) : H w.heap.size = none := by
  cases e : H w.heap.size with
  | none => rfl
  | some o => exact absurd (h.lt e) (Nat.lt_irrefl _)

/-- Draws. -/
theorem S.drewN (h : S w0 H w L) (n : Nat) : S w0 H (w.drewN n) L := ⟨h.os, h.tape, h.output, h.snap, h.own, h.free, h.nodup⟩
theorem S.drew (h : S w0 H w L) : S w0 H w.drew L := ⟨h.os, h.tape, h.output, h.snap, h.own, h.free, h.nodup⟩
/-- A call that leaves what was there. -/
theorem S.below {w' : World} (h : S w0 H w L) (hb : Below w.heap.size w w') : S w0 H w' L :=
  ⟨hb.os.trans h.os, hb.tape.trans h.tape, hb.output.trans h.output, fun b o hH => (hb.block b (h.lt hH)).trans (h.snap b o hH),
    fun c hc => by obtain ⟨o, ho, hk⟩ := h.own c hc; exact ⟨o, (hb.block c.b (h.own_lt hc)).trans ho, hk⟩, h.free, h.nodup⟩
/-- A new block, known to be what it is. -/
theorem S.alloc (h : S w0 H w L) (o : Obj) : S w0 H (w.alloc o) (⟨w.heap.size, fun u => u = o⟩ :: L) := by
  have hb : Below w.heap.size w (w.alloc o) := (Below.refl _ _).alloc (Nat.le_refl _) _
  have h' := h.below hb
  refine ⟨h'.os, h'.tape, h'.output, h'.snap, ?_, ?_, ?_⟩
  · intro c hc
    rcases List.mem_cons.1 hc with rfl | hc
    · exact ⟨o, by show (w.heap.push o)[w.heap.size]? = some o; simp, rfl⟩
    · exact h'.own c hc
  · intro c hc
    rcases List.mem_cons.1 hc with rfl | hc
    · exact h.size_free
    · exact h.free c hc
  · refine List.nodup_cons.2 ⟨?_, h.nodup⟩
    intro hm
    obtain ⟨c, hc, e⟩ := List.mem_map.1 hm
    exact absurd (h.own_lt hc) (by rw [e]; exact Nat.lt_irrefl _)
/-- Fewer blocks told. -/
theorem S.weaken {L' : List Chunk} (h : S w0 H w L) (hs : L'.Sublist L) : S w0 H w L' :=
  ⟨h.os, h.tape, h.output, h.snap, fun c hc => h.own c (hs.subset hc), fun c hc => h.free c (hs.subset hc), (hs.map _).nodup h.nodup⟩
theorem S.drop {c : Chunk} (h : S w0 H w (c :: L)) : S w0 H w L := h.weaken (List.sublist_cons_self _ _)
theorem S.perm {L' : List Chunk} (h : S w0 H w L) (hp : L.Perm L') : S w0 H w L' :=
  ⟨h.os, h.tape, h.output, h.snap, fun c hc => h.own c (hp.mem_iff.2 hc), fun c hc => h.free c (hp.mem_iff.2 hc), ((hp.map _).nodup_iff).1 h.nodup⟩
theorem S.swap {c d : Chunk} (h : S w0 H w (c :: d :: L)) : S w0 H w (d :: c :: L) := h.perm (List.Perm.swap _ _ _)
/-- Less told of the first block. -/
theorem S.imp {c : Chunk} {ok : Obj → Prop} (h : S w0 H w (c :: L)) (hk : ∀ o, c.ok o → ok o) : S w0 H w (⟨c.b, ok⟩ :: L) :=
  ⟨h.os, h.tape, h.output, h.snap, fun d hd => by
    rcases List.mem_cons.1 hd with rfl | hd
    · obtain ⟨o, ho, hq⟩ := h.own c List.mem_cons_self; exact ⟨o, ho, hk o hq⟩
    · exact h.own d (List.mem_cons_of_mem _ hd), fun d hd => by
    rcases List.mem_cons.1 hd with rfl | hd
    · exact h.free c List.mem_cons_self
    · exact h.free d (List.mem_cons_of_mem _ hd), h.nodup⟩
/-- A block that will not be written any more. -/
theorem S.freeze {c : Chunk} (h : S w0 H w (c :: L)) : ∃ o, c.ok o ∧ w.heap[c.b]? = some o ∧ H.Sub (H.put c.b o) ∧ S w0 (H.put c.b o) w L := by
  obtain ⟨o, ho, hk⟩ := h.own c List.mem_cons_self
  refine ⟨o, hk, ho, Snap.Sub.put o (h.free c List.mem_cons_self), h.os, h.tape, h.output, ?_, fun d hd => h.own d (List.mem_cons_of_mem _ hd), ?_, (List.nodup_cons.1 (by simpa only [List.map_cons] using h.nodup)).2⟩
  · intro b u hb
    unfold Snap.put at hb
    split at hb
    · rename_i e; subst e; cases hb; exact ho
    · exact h.snap b u hb
  · intro d hd
    have hne : d.b ≠ c.b := S.ne_of h.nodup hd
    simp only [Snap.put, if_neg hne]
    exact h.free d (List.mem_cons_of_mem _ hd)
theorem S.freeze_row {b : Nat} {cs : Array Value} {t : TypeId} (h : S w0 H w (row b cs t :: L)) : H.Sub (H.put b (.cells cs t)) ∧ S w0 (H.put b (.cells cs t)) w L := by
  obtain ⟨o, hk, _, h1, h2⟩ := h.freeze
  have hk : o = _ := hk
  subst hk
  exact ⟨h1, h2⟩
/-- A store into a row of the call's own. -/
theorem S.setCell {b i : Nat} {cs : Array Value} {t : TypeId} (h : S w0 H w (row b cs t :: L)) (v : Value) : S w0 H (w.setCell ⟨b, i, none⟩ v) (row b (cs.setIfInBounds i v) t :: L) := by
  have hother : ∀ k, k ≠ b → (w.setCell ⟨b, i, none⟩ v).heap[k]? = w.heap[k]? := fun k hk => Below.heap_setCell w ⟨b, i, none⟩ v k hk
  refine ⟨h.os, h.tape, h.output, ?_, ?_, fun d hd => ?_, h.nodup⟩
  rotate_left 2
  · rcases List.mem_cons.1 hd with rfl | hd
    · exact h.free (row b cs t) List.mem_cons_self
    · exact h.free d (List.mem_cons_of_mem _ hd)
  · intro k o hk
    rw [hother k (fun e => by have := h.free _ List.mem_cons_self; subst e; rw [this] at hk; cases hk)]
    exact h.snap k o hk
  · intro d hd
    rcases List.mem_cons.1 hd with rfl | hd
    · obtain ⟨o, ho, hk⟩ := h.own _ List.mem_cons_self
      have hk : o = _ := hk
      subst hk
      refine ⟨_, ?_, rfl⟩
      simp only [World.setCell, Array.getElem?_modify, if_true]
      rw [ho]; rfl
    · have hne : d.b ≠ b := S.ne_of h.nodup hd
      obtain ⟨o, ho, hk⟩ := h.own d (List.mem_cons_of_mem _ hd)
      exact ⟨o, (hother d.b hne).trans ho, hk⟩
theorem S.row_heap {b : Nat} {cs : Array Value} {t : TypeId} (h : S w0 H w L) (hm : row b cs t ∈ L) : w.heap[b]? = some (.cells cs t) := by
  obtain ⟨o, ho, hk⟩ := h.own _ hm
  have hk : o = _ := hk
  subst hk
  exact ho
theorem S.row_cell {b i : Nat} {cs : Array Value} {t : TypeId} {v : Value} (h : S w0 H w L) (hm : row b cs t ∈ L) (hi : cs[i]? = some v) : w.cell? ⟨b, i, none⟩ = some v := by
  unfold World.cell?
  rw [h.row_heap hm]
  simpa using hi
theorem S.row_frozen {b i : Nat} {cs : Array Value} {t : TypeId} (h : S w0 H w L) (hm : row b cs t ∈ L) : w.frozen? ⟨b, i, none⟩ = false := by
  unfold World.frozen?
  rw [h.row_heap hm]
  simp
end

/-- At the very begin: all that lies in the world is told, nothing is owned. -/
theorem S.start (w : World) : S w (fun b => w.heap[b]?) w [] :=
  ⟨rfl, rfl, rfl, fun _ _ h => h, fun _ h => (by cases h), fun _ h => (by cases h), List.nodup_nil⟩
/-- At the very end: nothing that was there has turned. -/
theorem S.end_below {w w' : World} {H : Snap} {L : List Chunk} (h : S w H w' L) (hs : Snap.Sub (fun b => w.heap[b]?) H) : Below w.heap.size w w' := by
  refine ⟨h.os, h.tape, h.output, ?_, fun k hk => ?_⟩
  · rcases Nat.lt_or_ge w'.heap.size w.heap.size with hl | hl
    · have h1 : w.heap[w'.heap.size]? = some w.heap[w'.heap.size] := Array.getElem?_eq_getElem hl
      have := h.lt (hs _ _ h1)
      omega
    · exact hl
  · have h1 : w.heap[k]? = some w.heap[k] := Array.getElem?_eq_getElem hk
    rw [h1]
    exact h.snap _ _ (hs _ _ h1)

/-! A slice that is read. An element x lies in k cells 'enc x'. -/
def Rd {α : Type} (H : Snap) (k : Nat) (enc : α → List Value) (v : Value) (xs : List α) : Prop :=
  ∃ a c, v = .slice a xs.length c ∧ xs.length ≤ c ∧ c ≤ maxLen ∧ (0 < xs.length → ∃ b off, a = some ⟨b, off, none⟩ ∧
    ∀ i x, xs[i]? = some x → ∀ j u, (enc x)[j]? = some u → H.cell ⟨b, off + i * k + j, none⟩ = some u)
theorem Rd.sub {α : Type} {H H' : Snap} {k : Nat} {enc : α → List Value} {v : Value} {xs : List α} (h : Rd H k enc v xs) (hs : H.Sub H') : Rd H' k enc v xs := by
  obtain ⟨a, c, h1, h2, h3, h4⟩ := h
  exact ⟨a, c, h1, h2, h3, fun hp => by
    obtain ⟨b, off, e, h5⟩ := h4 hp
    exact ⟨b, off, e, fun i x hx j u hu => Snap.cell_of hs (h5 i x hx j u hu)⟩⟩
theorem Rd.nil {α : Type} (H : Snap) (k : Nat) (enc : α → List Value) : Rd H k enc (.slice none 0 0) ([] : List α) := ⟨none, 0, rfl, Nat.le_refl _, Nat.zero_le _, fun h => absurd h (by simp)⟩

/-- A digest: sixteen bytes. -/
abbrev Dig := { l : List UInt8 // l.length = 16 }
def Dig.cells (d : Dig) : List Value := d.1.map fun b => .int .u8 b.toNat
theorem Dig.cells_length (d : Dig) : d.cells.length = 16 := by simp [Dig.cells, d.2]
def Dig.val (d : Dig) : Value := .agg d.cells.toArray

#print axioms S.setCell
#print axioms S.end_below
end Go.Proofs.Bc
