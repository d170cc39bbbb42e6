/- The executor's operations against the model's, one by one: composites, slices. -/
import Derived.Test.YtglbbdailankpaaGreatDoorXF
import Derived.Laws.Tables
import Derived.Laws.MakeOwn
import Derived.Laws.Slices
namespace Go.Proofs.Bc
open Go
variable {P : Program} {ι : Ren} {st st' : St} {w : World} {a : AV} {rec : Bool} {ev : Operand → Value} {ρ : Operand → Option AV}

theorem reps_length {α : Type} (z : List α) : ∀ m, (reps m z).length = m * z.length
  | 0 => by simp [reps]
  | m + 1 => by simp [reps, reps_length z m, Nat.succ_mul, Nat.add_comm]
theorem reps_get {α : Type} (z : List α) : ∀ (m i : Nat), i < m * z.length → (reps m z)[i]? = z[i % z.length]?
  | 0, i, h => by simp at h
  | m + 1, i, h => by
    rw [reps]
    by_cases hi : i < z.length
    · rw [List.getElem?_append_left hi, Nat.mod_eq_of_lt hi]
    · have hz : 0 < z.length := by
        rcases Nat.eq_zero_or_pos z.length with e | e
        · rw [e] at h; simp at h
        · exact e
      rw [Nat.succ_mul] at h
      rw [List.getElem?_append_right (by omega), reps_get z m _ (by omega)]
      congr 1
      rw [Nat.mod_eq_sub_mod (a := i) (by omega)]
theorem made_reps (z : Array Value) (m n : Nat) (h : n = m * z.size) : madeCells z n = ⟨reps m z.toList⟩ := by
  apply Array.toList_inj.1
  apply List.ext_getElem?
  intro i
  by_cases hi : i < n
  · have hz : 0 < z.size := by
      rcases Nat.eq_zero_or_pos z.size with e | e
      · rw [e] at h; omega
      · exact e
    have hr := reps_get z.toList m i (by rw [Array.length_toList]; omega)
    simp only at hr ⊢
    rw [hr]
    have hlt : i % z.size < z.size := Nat.mod_lt _ hz
    simp [madeCells, Array.range, hi, hlt]
  · rw [List.getElem?_eq_none, List.getElem?_eq_none]
    · simp only; rw [reps_length, Array.length_toList]; omega
    · simp [madeCells]; omega

/-- The parts of a composite. -/
def PRels (ι : Ren) : List (Nat × AV) → List (Nat × Value) → Prop
  | [], qs => qs = []
  | p :: ps, qs => ∃ v r, Rel ι p.2 v ∧ PRels ι ps r ∧ qs = (p.1, v) :: r
theorem parts_rel (ps : List (Nat × Operand)) {as : List (Nat × AV)} (h : mapX (fun p => match ρ p.2 with
    | some v => some (p.1, v)
    | none => none) ps = some as) (hρ : ∀ x ∈ ps.map (·.2), ∀ a, ρ x = some a → Rel ι a (ev x)) : PRels ι as (ps.map fun p => (p.1, ev p.2)) := by
  induction ps generalizing as with
  | nil => simp only [mapX, Option.some.injEq] at h; subst h; rfl
  | cons p ps ih =>
    rw [mapX] at h
    cases e : ρ p.2 with
    | none => simp [e] at h
    | some v =>
      simp only [e] at h
      split at h
      · rename_i ys e2
        simp only [Option.some.injEq] at h
        subst h
        exact ⟨_, _, hρ p.2 (by simp) v e, ih e2 (fun z hz => hρ z (by simp at hz ⊢; right; exact hz)), rfl⟩
      · cases h

theorem foldl_lay (v : List Value) : ∀ (k off : Nat) (cs : Array Value), off + k + v.length ≤ cs.size →
    ((v.zipIdx k).foldl (fun cs (x : Value × Nat) => cs.setIfInBounds (off + x.2) x.1) cs).toList = lay (off + k) v cs.toList := by
  induction v with
  | nil => intro k off cs _; simp [lay]
  | cons x v ih =>
    intro k off cs h
    simp only [List.length_cons] at h
    rw [List.zipIdx_cons, List.foldl_cons, ih (k + 1) off _ (by simp; omega)]
    simp only [Array.toList_setIfInBounds]
    rw [show off + (k + 1) = off + k + 1 by omega, lay_set (by simp; omega)]

theorem fillX_spec (place : Nat → Option (Nat × Nat)) : ∀ (ps : List (Nat × AV)) (qs : List (Nat × Value)) (cs cs' : List AV) (vs : Array Value), fillX place ps cs = some cs' → PRels ι ps qs → Rels ι cs vs.toList →
    ∃ vs', Instr.fill place vs qs = some vs' ∧ Rels ι cs' vs'.toList
  | [], qs, cs, cs', vs, h, hq, hr => by
    simp only [fillX, Option.some.injEq] at h
    simp only [PRels] at hq
    subst h hq
    exact ⟨vs, rfl, hr⟩
  | (i, x) :: ps, qs, cs, cs', vs, h, hq, hr => by
    obtain ⟨v, r, h1, h2, rfl⟩ := hq
    simp only [fillX] at h
    split at h
    · rename_i off n hp
      split at h
      · rename_i c2 hn hle hlay
        obtain ⟨e1, _⟩ := layX_eq _ _ _ _ hlay
        subst e1
        have hc := h1.cells
        have hcl : v.cells.toList.length = x.cells.length := hc.length
        have hsz : v.cells.size = n := by rw [← Array.length_toList, hcl]; exact beqT.1 hn
        have hle' : off + n ≤ cs.length := bleT.1 hle
        have hvl : vs.size = cs.length := by rw [← Array.length_toList]; exact hr.length
        have hl := foldl_lay v.cells.toList 0 off vs (by rw [Array.length_toList]; omega)
        obtain ⟨vs', hf, hr'⟩ := fillX_spec place ps r _ cs' (v.cells.zipIdx.foldl (fun cs (c, j) => cs.setIfInBounds (off + j) c) vs) h h2 (by
          have e : (v.cells.zipIdx.foldl (fun cs (c, j) => cs.setIfInBounds (off + j) c) vs).toList = lay off v.cells.toList vs.toList := by
            rw [← Array.foldl_toList, Array.toList_zipIdx]
            simpa using hl
          rw [e]
          exact hr.lay off hc)
        refine ⟨vs', ?_, hr'⟩
        rw [Instr.fill, hp]
        have hno : ¬ (v.cells.size ≠ n ∨ off + v.cells.size > vs.size) := by omega
        simp only [hsz, ne_eq, not_true_eq_false, decide_false, Bool.false_or, decide_eq_true_eq]
        rw [if_neg (by omega)]
        exact hf
      · cases h
    · cases h

theorem placesX_eq : ∀ (fs : List Field) (pl : List (Nat × Nat)), placesX P fs = some pl → fs.mapM (fun f => (P.info? f.type).map fun i => (f.offset, i.size)) = some pl
  | [], pl, h => by simp only [placesX, mapX, Option.some.injEq] at h; subst h; rfl
  | f :: fs, pl, h => by
    unfold placesX at h
    rw [mapX] at h
    cases e : sizeX P f.type with
    | none => simp [e] at h
    | some n =>
      simp only [e] at h
      split at h
      · rename_i ys e2
        simp only [Option.some.injEq] at h
        subst h
        have ih := placesX_eq fs ys e2
        unfold sizeX at e
        cases e3 : P.info? f.type with
        | none => rw [e3] at e; cases e
        | some i =>
          rw [e3] at e
          simp only [Option.some.injEq] at e
          simp [List.mapM_cons, e3, ih, e]
      · cases h

theorem nthX_get {α : Type} : ∀ (n : Nat) (xs : List α), nthX n xs = xs[n]?
  | n, [] => by cases n <;> rfl
  | 0, x :: xs => rfl
  | n + 1, x :: xs => by rw [nthX]; simpa using nthX_get n xs

theorem buildX_spec {t : TypeId} {ps : List (Nat × AV)} (h : buildX P t ps = some a) {qs : Array (Nat × Value)} (hq : PRels ι ps qs.toList) (w : World) : ∃ v, (Instr.build t qs).run P w = .ok v w ∧ Rel ι a v := by
  unfold buildX at h
  split at h
  · rename_i z hz
    obtain ⟨i, zv, hi, hzv, _, hrel⟩ := run_zeroX hz ι w
    split at h
    · rename_i fs hu
      split at h
      · rename_i pl hpl
        split at h
        · rename_i cs hf
          simp only [Option.some.injEq] at h
          subst h
          obtain ⟨vs', hfill, hr⟩ := fillX_spec _ ps qs.toList _ cs zv.cells hf hq hrel.cells
          refine ⟨.agg vs', run_build w t qs vs' ?_, by simp only [Rel]; exact ⟨vs'.toList, hr, by simp⟩⟩
          unfold Program.built
          simp only [hi, hu, hzv, placesX_eq _ _ hpl]
          rw [← hfill]
          congr 1
          funext k
          simp [nthX_get]
        · cases h
      · cases h
    · rename_i n e hu
      split at h
      · rename_i s hs
        split at h
        · rename_i cs hf
          simp only [Option.some.injEq] at h
          subst h
          obtain ⟨vs', hfill, hr⟩ := fillX_spec _ ps qs.toList _ cs zv.cells hf hq hrel.cells
          refine ⟨.agg vs', run_build w t qs vs' ?_, by simp only [Rel]; exact ⟨vs'.toList, hr, by simp⟩⟩
          unfold Program.built
          unfold sizeX at hs
          cases e3 : P.info? e with
          | none => rw [e3] at hs; cases hs
          | some ie =>
            rw [e3] at hs
            simp only [Option.some.injEq] at hs
            simp only [hi, hu, hzv, e3]
            rw [← hfill]
            congr 1
            funext k
            simp [hs]
        · cases h
      · cases h
    · cases h
  · cases h

theorem op_build {t : TypeId} {ps : Array (Nat × Operand)} {o : Oper} (ho : o.op = .build t ps) (h : opBuild P t (partsX ρ ps) st = some (.val a st')) (hρ : ∀ x ∈ o.op.operands, ∀ a, ρ x = some a → Rel ι a (ev x)) (hI : Inv P ι st w) :
    OpRes P rec (Out P ι st w a st') ((execOp ev o).run P w) := by
  unfold opBuild at h
  rw [ho] at hρ
  split at h
  · rename_i as has
    obtain ⟨h1, rfl⟩ := valX_inv h
    have hq := parts_rel ps.toList has (fun x hx => hρ x (by simpa [Op.operands] using hx))
    obtain ⟨v, hrun, hrel⟩ := buildX_spec (qs := ps.map fun (i, x) => (i, ev x)) h1 (by simpa using hq) w
    refine OpRes.value (v := v) (w := w) ?_ (Out.same hI hrel)
    simp [execOp, ho, hrun]
  · cases h

theorem op_buildSlice {t : TypeId} {len : Nat} {ps : Array (Nat × Operand)} {o : Oper} (ho : o.op = .buildSlice t len ps) (h : opBuildSlice P t len (partsX ρ ps) st = some (.val a st')) (hρ : ∀ x ∈ o.op.operands, ∀ a, ρ x = some a → Rel ι a (ev x)) (hI : Inv P ι st w) :
    OpRes P rec (Out P ι st w a st') ((execOp ev o).run P w) := by
  unfold opBuildSlice at h
  rw [ho] at hρ
  split at h
  · rename_i as e has hu
    split at h
    · rename_i n z hs hz
      split at h
      · rename_i zs hle hn hrep
        split at h
        · rename_i cs hf
          obtain ⟨l, h1, rfl⟩ := rowResX_inv h
          have hq := parts_rel ps.toList has (fun x hx => hρ x (by simpa [Op.operands] using hx))
          obtain ⟨i, zv, hi, hzv, hzrun, hrel⟩ := run_zeroX hz ι w
          have e1 := repX_eq _ _ _ hrep
          subst e1
          have hle' : len * n ≤ 100000 := bleT.1 hle
          have hzl : z.cells.length = n := beqT.1 hn
          have hzs : zv.cells.size = n := by rw [← Array.length_toList, hrel.cells.length]; exact hzl
          obtain ⟨vs', hfill, hr⟩ := fillX_spec _ as (ps.map fun (i, x) => (i, ev x)).toList _ cs ⟨reps len zv.cells.toList⟩ hf (by simpa using hq) (hrel.cells.reps len)
          have hmade : madeCells zv.cells (len * n) = ⟨reps len zv.cells.toList⟩ := made_reps _ _ _ (by rw [hzs])
          obtain ⟨ι', hp, hι⟩ := newRowX_spec hI h1 hr (0, 0) [] row_unfrozen
          rw [List.append_nil] at hp hι
          have hlen : vs'.size = len * n := by
            have e1 : vs'.toList.length = cs.length := hr.length
            have e2 : cs.length = len * n := by
              have : ∀ (ps : List (Nat × AV)) (cs cs' : List AV), fillX (fun i => some (Nat.mul i n, n)) ps cs = some cs' → cs'.length = cs.length := by
                intro ps
                induction ps with
                | nil => intro cs cs' h; simp only [fillX, Option.some.injEq] at h; rw [h]
                | cons p ps ih =>
                  intro cs cs' h
                  obtain ⟨pi, px⟩ := p
                  simp only [fillX] at h
                  split at h
                  · rename_i c2 _ hle hlay
                    obtain ⟨e1, e2⟩ := layX_eq _ _ _ _ hlay
                    rw [ih _ _ h, e1, lay_length e2]
                  · cases h
              rw [this _ _ _ hf, reps_length, hzl]
            rw [← Array.length_toList]; omega
          refine OpRes.value (v := .slice (some ⟨w.heap.size, 0, none⟩) len len) (w := w.alloc (.cells vs' e (0, 0))) ?_ ⟨ι', ?_, by simpa using hp⟩
          · have hno : ¬ (16777216 < len * n) := by omega
            by_cases h0 : len * n = 0
            · have hz0 : madeCells zv.cells 0 = (#[] : Array Value) := by
                apply Array.eq_empty_of_size_eq_zero; simp [madeCells]
              have hr0 : (⟨reps len zv.cells.toList⟩ : Array Value) = #[] := by rw [← hmade, h0, hz0]
              rw [hr0] at hfill
              simp [execOp, ho, Instr.buildSlice, run_underlying hu w, run_sizeX hs w, h0, Array.range_zero', newRow] at hfill ⊢
              rw [hfill]; rfl
            · have hm : (Array.range (len * n)).map (fun x => zv.cells[x % zv.cells.size]!) = ⟨reps len zv.cells.toList⟩ := hmade
              simp [execOp, ho, Instr.buildSlice, run_underlying hu w, run_sizeX hs w, h0, hno, hzrun, newRow] at hfill ⊢
              rw [hm, hfill]; rfl
          · simp only [Rel]
            exact ⟨_, _, len, hι, Nat.le_refl _, by simp, by rw [Array.length_toList, hlen]; omega, rfl⟩
        · cases h
      · cases h
    · cases h
  · cases h
end Go.Proofs.Bc
