/- The executor's operations against the model's: memory. -/
import Derived.Test.YtglbbdailankpaaGreatDoorXB
namespace Go.Proofs.Bc
open Go
variable {P : Program}

/-! ### Types -/
theorem run_sizeX {t : TypeId} {n : Nat} (h : sizeX P t = some n) (w : World) : (Go.sizeOf t).run P w = .ok n w := by
  unfold sizeX at h
  cases e : P.info? t with
  | none => rw [e] at h; cases h
  | some i =>
    rw [e] at h
    simp only [Option.some.injEq] at h
    simp [Go.sizeOf, typeInfo, e, h]
theorem run_aggX {t : TypeId} {b : Bool} (h : aggX P t = some b) (w : World) : (isAgg t).run P w = .ok b w := by
  unfold aggX at h
  cases e : P.underlying t with
  | none => rw [e] at h; cases h
  | some d =>
    rw [e] at h
    have := run_underlying e w
    cases d <;> simp only [Option.some.injEq] at h <;> subst h <;> simp [isAgg, this]
theorem run_zeroX {t : TypeId} {a : AV} (h : zeroX P t = some a) (ι : Ren) (w : World) : ∃ i z, P.info? t = some i ∧ i.zero = some z ∧ (zeroValue t).run P w = .ok z w ∧ Rel ι a z := by
  unfold zeroX at h
  cases e : P.info? t with
  | none => rw [e] at h; cases h
  | some i =>
    rw [e] at h
    simp only at h
    cases e2 : i.zero with
    | none => rw [e2] at h; cases h
    | some z =>
      rw [e2] at h
      exact ⟨i, z, rfl, e2, by simp [zeroValue, typeInfo, e, e2], of_rel ι _ _ _ h⟩

theorem pureX_run {α : Type} : ∀ (s : Sem α) (a : α), pureX P s = some a → ∀ w, s.run P w = .ok a w
  | .pure x, a, h, w => by simp only [pureX, Option.some.injEq] at h; rw [h]; rfl
  | .program k, a, h, w => by
    simp only [pureX] at h
    exact pureX_run (k P) a h w
  | .load _ _ _, a, h, w => by simp [pureX] at h
  | .store _ _ _ _, a, h, w => by simp [pureX] at h
  | .new _ _, a, h, w => by simp [pureX] at h
  | .shape _ _, a, h, w => by simp [pureX] at h
  | .freeze _ _ _, a, h, w => by simp [pureX] at h
  | .frozen _ _, a, h, w => by simp [pureX] at h
  | .getObj _ _, a, h, w => by simp [pureX] at h
  | .setObj _ _ _, a, h, w => by simp [pureX] at h
  | .choose _ _, a, h, w => by simp [pureX] at h
  | .sys _ _, a, h, w => by simp [pureX] at h
  | .mark _ _, a, h, w => by simp [pureX] at h
  | .halt _, a, h, w => by simp [pureX] at h

/-! ### Cells -/
theorem cell?_at {w : World} {b i : Nat} {vs : List Value} {t : TypeId} {fr : Nat × Nat} (h : w.heap[b]? = some (.cells ⟨vs⟩ t fr)) : w.cell? ⟨b, i, none⟩ = vs[i]? := by
  unfold World.cell?
  rw [h]
  simp

/-- What a reading gives. -/
theorem readX_spec {ι : Ren} {st : St} {w : World} (hI : Inv P ι st w) {l off n : Nat} {cs : List AV} (h : readX st l off n = some cs) :
    ∃ b k vs us t fr, ι l = some (b, k) ∧ w.heap[b]? = some (.cells ⟨us⟩ t fr) ∧ us.length = k ∧ vs = (us.drop off).take n ∧ vs.length = n ∧ cs.length = n ∧ Rels ι cs vs ∧ off + n ≤ k ∧ (loadCells ⟨b, off, none⟩ n).run P w = .ok ⟨vs⟩ w := by
  unfold readX at h
  split at h
  · rename_i cs0 t hl
    cases e1 : dropX off cs0 with
    | none => rw [e1] at h; cases h
    | some r =>
      rw [e1] at h
      obtain ⟨h1, h2⟩ := dropX_eq _ _ _ e1
      obtain ⟨h3, h4⟩ := takeX_eq _ _ _ h
      subst h1
      obtain ⟨b, k, ob, hi, hb, ho, _⟩ := hI.heap.at_ _ _ hl
      obtain ⟨us, fr, rfl, hk, hle, hr⟩ := ho
      have hn : off + n ≤ cs0.length := by simp only [List.length_drop] at h4; omega
      have hvs : ((us.take cs0.length).drop off).take n = (us.drop off).take n := by
        rw [List.drop_take, List.take_take]
        congr 1; omega
      have hlen : ((us.drop off).take n).length = n := by simp; omega
      refine ⟨b, k, (us.drop off).take n, us, t, fr, hi, hb, hk, rfl, hlen, by rw [h3]; simp; omega, ?_, by omega, ?_⟩
      · rw [h3, ← hvs]
        exact (hr.drop off).take n
      · have := run_loadCells_list (P := P) w ⟨b, off, none⟩ ((us.drop off).take n) (fun j v hj => by
          have hjn : j < n := by have := (List.getElem?_eq_some_iff.1 hj).1; omega
          have ha : (⟨b, off, none⟩ : Addr).add j = ⟨b, off + j, none⟩ := by
            unfold Addr.add; split
            · subst_vars; rfl
            · rfl
          rw [ha, cell?_at hb]
          rw [List.getElem?_take_of_lt hjn, List.getElem?_drop] at hj
          exact hj)
        rw [hlen] at this
        exact this
  · cases h

theorem loadX_spec {ι : Ren} {st : St} {w : World} (hI : Inv P ι st w) {t : TypeId} {l off : Nat} {a : AV} (h : loadX P t st l off = some a) :
    ∃ b k v, ι l = some (b, k) ∧ (loadVar t ⟨b, off, none⟩).run P w = .ok v w ∧ Rel ι a v := by
  unfold loadX at h
  split at h
  · rename_i hagg
    split at h
    · rename_i n hs
      split at h
      · rename_i cs hr
        simp only [Option.some.injEq] at h
        subst h
        obtain ⟨b, k, vs, us, t', fr, hi, _, _, _, _, _, hrel, _, hrun⟩ := readX_spec hI hr
        refine ⟨b, k, .agg ⟨vs⟩, hi, ?_, by simp only [Rel]; exact ⟨vs, hrel, rfl⟩⟩
        simp [loadVar, run_aggX hagg w, run_sizeX hs w, hrun]
      · cases h
    · cases h
  · rename_i hagg
    split at h
    · rename_i v0 hr
      simp only [Option.some.injEq] at h
      subst h
      obtain ⟨b, k, vs, us, t', fr, hi, hb, _, hvs, hlen, _, hrel, _, hrun⟩ := readX_spec hI hr
      rw [Rels.cons_iff] at hrel
      obtain ⟨v, r, h1, h2, rfl⟩ := hrel
      refine ⟨b, k, v, hi, ?_, h1⟩
      have hc : w.cell? ⟨b, off, none⟩ = some v := by
        rw [cell?_at hb]
        have : ((us.drop off).take 1)[0]? = some v := by rw [← hvs]; rfl
        rw [List.getElem?_take_of_lt (by omega), List.getElem?_drop] at this
        exact this
      simp [loadVar, run_aggX hagg w, run_load, hc]
    · cases h
  · cases h

/-- Two worlds that differ in the block b alone. -/
structure OnlyAt (b : Nat) (w w' : World) : Prop where
  size : w'.heap.size = w.heap.size
  other : ∀ k, k ≠ b → w'.heap[k]? = w.heap[k]?
  os : w'.os = w.os
  tape : w'.tape = w.tape
  output : w'.output = w.output
theorem OnlyAt.refl (b : Nat) (w : World) : OnlyAt b w w := ⟨rfl, fun _ _ => rfl, rfl, rfl, rfl⟩
theorem OnlyAt.trans {b : Nat} {w w1 w2 : World} (h : OnlyAt b w w1) (k : OnlyAt b w1 w2) : OnlyAt b w w2 :=
  ⟨k.size.trans h.size, fun i hi => (k.other i hi).trans (h.other i hi), k.os.trans h.os, k.tape.trans h.tape, k.output.trans h.output⟩

theorem setCell_at {w : World} {b i : Nat} {vs : List Value} {t : TypeId} {fr : Nat × Nat} {v : Value} (h : w.heap[b]? = some (.cells ⟨vs⟩ t fr)) :
    (w.setCell ⟨b, i, none⟩ v).heap[b]? = some (.cells ⟨vs.set i v⟩ t fr) ∧ OnlyAt b w (w.setCell ⟨b, i, none⟩ v) := by
  refine ⟨?_, by simp, fun k hk => heap_setCell_other w _ k v hk, rfl, rfl, rfl⟩
  simp only [World.setCell]
  obtain ⟨hlt, hb⟩ := Array.getElem?_eq_some_iff.1 h
  rw [Array.getElem?_eq_getElem (by rw [Array.size_modify]; exact hlt), Array.getElem_modify_self, hb]
  simp

theorem lay_set {α : Type} {k : Nat} {v : α} {vs c : List α} (h : k < c.length) : lay (k + 1) vs (c.set k v) = lay k (v :: vs) c := by
  unfold lay
  rw [List.take_succ_eq_append_getElem (by simpa using h), List.take_set_of_le (Nat.le_refl k), List.drop_set_of_lt (by omega)]
  simp [Nat.add_comm, Nat.add_left_comm]

theorem run_storeCells_row (b off : Nat) (t : TypeId) (fr : Nat × Nat) : ∀ (vs : List Value) (i : Nat) (w : World) (c : List Value), w.heap[b]? = some (.cells ⟨c⟩ t fr) → (vs = [] ∨ off + i + vs.length ≤ c.length) →
    (∀ i, i < c.length → ¬ (fr.1 ≤ i ∧ i < fr.2)) → (∀ v ∈ vs, v.oneCell' = true) →
    ∃ w', (storeCells ⟨b, off, none⟩ vs i).run P w = .ok () w' ∧ w'.heap[b]? = some (.cells ⟨lay (off + i) vs c⟩ t fr) ∧ OnlyAt b w w'
  | [], i, w, c, h, _, _, _ => ⟨w, rfl, by simpa [lay] using h, OnlyAt.refl b w⟩
  | v :: vs, i, w, c, h, hn, hf, h1 => by
    have hn' : off + i + (vs.length + 1) ≤ c.length := by
      rcases hn with hn | hn
      · cases hn
      · simpa using hn
    have ha : (⟨b, off, none⟩ : Addr).add i = ⟨b, off + i, none⟩ := by
      unfold Addr.add; split
      · subst_vars; rfl
      · rfl
    have hcell : w.cell? ⟨b, off + i, none⟩ = some (c[off + i]'(by omega)) := by rw [cell?_at h, List.getElem?_eq_getElem]
    have hfr : w.frozen? ⟨b, off + i, none⟩ = false := by
      unfold World.frozen?
      rw [h]
      have := hf (off + i) (by omega)
      simp only [Bool.and_eq_false_iff, decide_eq_false_iff_not]
      omega
    obtain ⟨hs1, hs2⟩ := setCell_at (i := off + i) (v := v) h
    obtain ⟨w', hr, hb', ho⟩ := run_storeCells_row b off t fr vs (i + 1) _ _ hs1 (by right; simp; omega) (by simpa using hf) (fun u hu => h1 u (by simp [hu]))
    refine ⟨w', ?_, ?_, hs2.trans ho⟩
    · simp only [storeCells, Sem.run_bind, ha, run_store P w _ v _ (h1 v (by simp)), hcell, hfr]
      simpa using hr
    · rw [hb']
      rw [show off + (i + 1) = off + i + 1 by omega, lay_set (by omega)]
end Go.Proofs.Bc
