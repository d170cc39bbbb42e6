/- The executor's operations against the model's, one by one: structures, addresses. -/
import Derived.Test.YtglbbdailankpaaGreatDoorXD
namespace Go.Proofs.Bc
open Go
variable {P : Program} {ι : Ren} {st st' : St} {w : World} {a : AV} {rec : Bool} {ev : Operand → Value} {ρ : Operand → Option AV}

theorem rowResX_inv {r : Option (Nat × St)} {f : Nat → AV} (h : rowResX r f = some (.val a st')) : ∃ l, r = some (l, st') ∧ a = f l := by
  cases r with
  | none => cases h
  | some x => obtain ⟨x, y⟩ := x; simp only [rowResX, Option.some.injEq, ORes.val.injEq] at h; exact ⟨x, by rw [h.2], h.1.symm⟩

theorem row_unfrozen {vs : List Value} : ∀ i, i < vs.length → ¬ ((0, 0).1 ≤ i ∧ i < (0, 0).2) := fun i _ h => by simp at h

theorem op_alloc {e : TypeId} {o : Oper} (ho : o.op = .alloc e) (h : opAlloc P e st = some (.val a st')) (hI : Inv P ι st w) :
    OpRes P rec (Out P ι st w a st') ((execOp ev o).run P w) := by
  unfold opAlloc at h
  split at h
  · rename_i z hz
    obtain ⟨l, h1, rfl⟩ := rowResX_inv h
    obtain ⟨i, zv, _, _, hrun, hrel⟩ := run_zeroX hz ι w
    obtain ⟨ι', hp, hi⟩ := newRowX_spec hI h1 hrel.cells (0, 0) [] row_unfrozen
    rw [List.append_nil] at hp hi
    refine OpRes.value (v := .pointer (some ⟨w.heap.size, 0, none⟩)) (w := w.alloc (.cells zv.cells e (0, 0))) ?_ ⟨ι', by simp only [Rel]; exact ⟨_, _, hi, rfl⟩, by simpa using hp⟩
    simp [execOp, ho, Instr.alloc, hrun, newVar, newRow]
  · cases h

theorem op_box {e : TypeId} {x : Operand} {o : Oper} (ho : o.op = .box e x) (h : opBox e (ρ x) st = some (.val a st')) (hρ : ∀ x ∈ o.op.operands, ∀ a, ρ x = some a → Rel ι a (ev x)) (hI : Inv P ι st w) :
    OpRes P rec (Out P ι st w a st') ((execOp ev o).run P w) := by
  unfold opBox at h
  rw [ho] at hρ
  split at h
  · rename_i z hz
    obtain ⟨l, h1, rfl⟩ := rowResX_inv h
    have hrel := hρ x (by simp [Op.operands]) _ hz
    obtain ⟨ι', hp, hi⟩ := newRowX_spec hI h1 hrel.cells (0, 0) [] row_unfrozen
    rw [List.append_nil] at hp hi
    refine OpRes.value (v := .pointer (some ⟨w.heap.size, 0, none⟩)) (w := w.alloc (.cells (ev x).cells e (0, 0))) ?_ ⟨ι', by simp only [Rel]; exact ⟨_, _, hi, rfl⟩, by simpa using hp⟩
    simp [execOp, ho, Instr.box, newVar, newRow]
  · cases h

theorem op_fieldAddr {s : TypeId} {x : Operand} {f : Nat} {o : Oper} (ho : o.op = .fieldAddr s x f) (h : opFieldAddr P s (ρ x) f st = some (.val a st')) (hρ : ∀ x ∈ o.op.operands, ∀ a, ρ x = some a → Rel ι a (ev x)) (hI : Inv P ι st w) :
    OpRes P rec (Out P ι st w a st') ((execOp ev o).run P w) := by
  unfold opFieldAddr at h
  rw [ho] at hρ
  split at h
  · rename_i l off fs hx hu
    split at h
    · rename_i fd hfd
      split at h
      · rename_i n hs
        simp only [ptrX, forceN_eq, Option.some.injEq, ORes.val.injEq] at h
        obtain ⟨rfl, rfl⟩ := h
        have hx' := hρ x (by simp [Op.operands]) _ hx
        simp only [Rel] at hx'
        obtain ⟨b, k, hi, hv⟩ := hx'
        have ha : (⟨b, off, none⟩ : Addr).add fd.offset = ⟨b, off + fd.offset, none⟩ := by
          unfold Addr.add; split
          · rename_i e; rw [e]; rfl
          · rfl
        refine OpRes.value (v := .pointer (some ⟨b, off + fd.offset, none⟩)) (w := w) ?_ (Out.same hI (by simp only [Rel]; exact ⟨b, k, hi, rfl⟩))
        simp [execOp, ho, Instr.fieldAt, run_underlying hu w, hfd, hv, Instr.sureAddr, fieldPlace, run_sizeX hs w, ha]
      · cases h
    · cases h
  · cases h

theorem addr_add (b off n : Nat) : (⟨b, off, none⟩ : Addr).add n = ⟨b, off + n, none⟩ := by
  unfold Addr.add; split
  · rename_i e; rw [e]; rfl
  · rfl

theorem op_indexAddr {t : TypeId} {x ix : Operand} {o : Oper} (ho : o.op = .indexAddr t x ix) (h : opIndexAddr P t (ρ x) (ρ ix) st = some (.val a st')) (hρ : ∀ x ∈ o.op.operands, ∀ a, ρ x = some a → Rel ι a (ev x)) (hI : Inv P ι st w) :
    OpRes P rec (Out P ι st w a st') ((execOp ev o).run P w) := by
  unfold opIndexAddr at h
  rw [ho] at hρ
  split at h
  · rename_i l off k i n e hx hix hu
    split at h
    · rename_i s hlt hs
      simp only [ptrX, forceN_eq, Option.some.injEq, ORes.val.injEq] at h
      obtain ⟨rfl, rfl⟩ := h
      have hx' := hρ x (by simp [Op.operands]) _ hx
      have hix' := hρ ix (by simp [Op.operands]) _ hix
      simp only [Rel] at hx' hix'
      obtain ⟨b, m, hi, hv⟩ := hx'
      have hlt' : i < n := bltT.1 hlt
      refine OpRes.value (v := .pointer (some ⟨b, off + i * s, none⟩)) (w := w) ?_ (Out.same hI (by simp only [Rel]; exact ⟨b, m, hi, rfl⟩))
      simp [execOp, ho, Instr.indexAt, run_underlying hu w, hv, hix', asIntOf, Instr.sureAddr, run_sizeX hs w, addr_add, hlt']
    · cases h
  · rename_i l off len es cap k i e hx hix hu
    split at h
    · rename_i s hlt hs
      simp only [ptrX, forceN_eq, Option.some.injEq, ORes.val.injEq] at h
      obtain ⟨rfl, rfl⟩ := h
      have hx' := hρ x (by simp [Op.operands]) _ hx
      have hix' := hρ ix (by simp [Op.operands]) _ hix
      simp only [Rel] at hx' hix'
      obtain ⟨b, m, c, hi, hc1, hc2, hc3, hv⟩ := hx'
      have hlt' : i < len := bltT.1 hlt
      refine OpRes.value (v := .pointer (some ⟨b, off + i * s, none⟩)) (w := w) ?_ (Out.same hI (by simp only [Rel]; exact ⟨b, m, hi, rfl⟩))
      simp [execOp, ho, Instr.indexAt, run_underlying hu w, hv, hix', asIntOf, run_sizeX hs w, addr_add, hlt']
    · cases h
  · cases h

theorem mapX_ops {l : List Operand} {as : List AV} (h : mapX ρ l = some as) (hρ : ∀ x ∈ l, ∀ a, ρ x = some a → Rel ι a (ev x)) : Rels ι as (l.map ev) := by
  induction l generalizing as with
  | nil => simp only [mapX, Option.some.injEq] at h; subst h; simp [Rels.nil_iff]
  | cons x l ih =>
    rw [mapX] at h
    split at h
    · rename_i y e
      split at h
      · rename_i ys e2
        simp only [Option.some.injEq] at h
        subst h
        exact Rels.cons_iff.2 ⟨_, _, hρ x (by simp) y e, ih e2 (fun z hz => hρ z (by simp [hz])), rfl⟩
      · cases h
    · cases h

theorem op_makeFunc {f : Fn} {first cap : Array Operand} {o : Oper} (ho : o.op = .makeFunc f first cap) (h : opMakeFunc f (mapX ρ first.toList) (mapX ρ cap.toList) st = some (.val a st'))
    (hρ : ∀ x ∈ o.op.operands, ∀ a, ρ x = some a → Rel ι a (ev x)) (hI : Inv P ι st w) :
    OpRes P rec (Out P ι st w a st') ((execOp ev o).run P w) := by
  unfold opMakeFunc at h
  rw [ho] at hρ
  split at h
  · rename_i xs ys hp hx hy
    simp only [Option.some.injEq, ORes.val.injEq] at h
    obtain ⟨rfl, rfl⟩ := h
    refine OpRes.value (v := .func f (first.map ev) (cap.map ev)) (w := w) (by simp [execOp, ho, Instr.makeFunc]) (Out.same hI ?_)
    simp only [Rel]
    refine ⟨f, first.toList.map ev, cap.toList.map ev, (by cases f <;> first | rfl | cases hp), mapX_ops hx (fun z hz => hρ z (by simp [Op.operands]; left; simpa using hz)), mapX_ops hy (fun z hz => hρ z (by simp [Op.operands]; right; simpa using hz)), ?_⟩
    congr 1 <;> (apply Array.toList_inj.1; simp)
  · cases h

theorem op_makeMap {t : TypeId} {r : Option Operand} {o : Oper} (ho : o.op = .makeMap t r) (h : opMakeMap r st = some (.val a st')) (hI : Inv P ι st w) :
    OpRes P rec (Out P ι st w a st') ((execOp ev o).run P w) := by
  unfold opMakeMap at h
  split at h
  · obtain ⟨l, h1, rfl⟩ := rowResX_inv h
    obtain ⟨hp, hi⟩ := Post.new (n := 0) hI h1 (.map #[] 0) ⟨[], rfl, rfl⟩ trivial
    refine OpRes.value (v := .map (some w.heap.size)) (w := w.alloc (.map #[] 0)) ?_ ⟨_, by simp only [Rel]; exact ⟨_, _, hi, rfl⟩, hp⟩
    simp [execOp, ho, Instr.makeMap]
  · cases h

theorem op_nilCheck {x : Operand} {o : Oper} (ho : o.op = .nilCheck x) (h : opNilCheck (ρ x) st = some (.val a st')) (hρ : ∀ x ∈ o.op.operands, ∀ a, ρ x = some a → Rel ι a (ev x)) (hI : Inv P ι st w) :
    OpRes P rec (Out P ι st w a st') ((execOp ev o).run P w) := by
  unfold opNilCheck at h
  rw [ho] at hρ
  split at h
  · rename_i l off hx
    simp only [Option.some.injEq, ORes.val.injEq] at h
    obtain ⟨rfl, rfl⟩ := h
    have hx' := hρ x (by simp [Op.operands]) _ hx
    refine OpRes.value (v := ev x) (w := w) ?_ (Out.same hI hx')
    simp only [Rel] at hx'
    obtain ⟨b, n, _, hv⟩ := hx'
    simp [execOp, ho, hv]
  · rename_i f xs ys hx
    simp only [Option.some.injEq, ORes.val.injEq] at h
    obtain ⟨rfl, rfl⟩ := h
    have hx' := hρ x (by simp [Op.operands]) _ hx
    refine OpRes.value (v := ev x) (w := w) ?_ (Out.same hI hx')
    simp only [Rel] at hx'
    obtain ⟨g, us, vs, hg, _, _, hv⟩ := hx'
    simp only [FnRel] at hg
    subst hg
    simp [execOp, ho, hv]
  · cases h

theorem op_extract {t : Operand} {i : Nat} {o : Oper} (ho : o.op = .extract t i) (h : opExtract (ρ t) i st = some (.val a st')) (hρ : ∀ x ∈ o.op.operands, ∀ a, ρ x = some a → Rel ι a (ev x)) (hI : Inv P ι st w) :
    OpRes P rec (Out P ι st w a st') ((execOp ev o).run P w) := by
  unfold opExtract at h
  rw [ho] at hρ
  split at h
  · rename_i vs hx
    obtain ⟨h1, rfl⟩ := valX_inv h
    have hx' := hρ t (by simp [Op.operands]) _ hx
    simp only [Rel] at hx'
    obtain ⟨us, hr, hv⟩ := hx'
    obtain ⟨v, hg, hrel⟩ := hr.get i a (nthX_eq _ _ _ h1)
    refine OpRes.value (v := v) (w := w) ?_ (Out.same hI hrel)
    simp [execOp, ho, hv, Instr.extract, hg]
  · cases h

theorem partX_spec {t : TypeId} {cs : List AV} {off : Nat} (h : partX P t cs off = some a) {vs : List Value} (hv : Rels ι cs vs) (w : World) : ∃ v, (part t ⟨vs⟩ off).run P w = .ok v w ∧ Rel ι a v := by
  unfold partX at h
  split at h
  · rename_i hagg
    split at h
    · rename_i n hs
      split at h
      · rename_i r hd
        split at h
        · rename_i us ht
          simp only [Option.some.injEq] at h
          subst h
          obtain ⟨h1, h2⟩ := dropX_eq _ _ _ hd
          obtain ⟨h3, h4⟩ := takeX_eq _ _ _ ht
          subst h1 h3
          refine ⟨.agg ((⟨vs⟩ : Array Value).extract off (off + n)), by simp [part, run_aggX hagg w, run_sizeX hs w], ?_⟩
          simp only [Rel]
          refine ⟨(vs.drop off).take n, (hv.drop off).take n, ?_⟩
          congr 1
          apply Array.toList_inj.1
          simp [List.take_drop]
        · cases h
      · cases h
    · cases h
  · rename_i hagg
    obtain ⟨v, hg, hrel⟩ := hv.get off a (nthX_eq _ _ _ h)
    exact ⟨v, by simp [part, run_aggX hagg w, hg], hrel⟩
  · cases h

theorem op_field {t : TypeId} {x : Operand} {f : Nat} {o : Oper} (ho : o.op = .field t x f) (h : opField P t (ρ x) f st = some (.val a st')) (hρ : ∀ x ∈ o.op.operands, ∀ a, ρ x = some a → Rel ι a (ev x)) (hI : Inv P ι st w) :
    OpRes P rec (Out P ι st w a st') ((execOp ev o).run P w) := by
  unfold opField at h
  rw [ho] at hρ
  split at h
  · rename_i cs fs hx hu
    split at h
    · rename_i fd hfd
      obtain ⟨h1, rfl⟩ := valX_inv h
      have hx' := hρ x (by simp [Op.operands]) _ hx
      simp only [Rel] at hx'
      obtain ⟨us, hr, hv⟩ := hx'
      obtain ⟨v, hg, hrel⟩ := partX_spec h1 hr w
      refine OpRes.value (v := v) (w := w) ?_ (Out.same hI hrel)
      simp [execOp, ho, hv, Instr.field, run_underlying hu w, hfd, asAgg, hg]
    · cases h
  · cases h

theorem op_s2ap {t : TypeId} {x : Operand} {o : Oper} (ho : o.op = .sliceToArrayPointer t x) (h : opS2AP P t (ρ x) st = some (.val a st')) (hρ : ∀ x ∈ o.op.operands, ∀ a, ρ x = some a → Rel ι a (ev x)) (hI : Inv P ι st w) :
    OpRes P rec (Out P ι st w a st') ((execOp ev o).run P w) := by
  unfold opS2AP at h
  rw [ho] at hρ
  split at h
  · rename_i l off len es cap n e hx hu
    split at h
    · rename_i hle
      simp only [Option.some.injEq, ORes.val.injEq] at h
      obtain ⟨rfl, rfl⟩ := h
      have hx' := hρ x (by simp [Op.operands]) _ hx
      simp only [Rel] at hx'
      obtain ⟨b, m, c, hi, hc1, hc2, hc3, hv⟩ := hx'
      refine OpRes.value (v := .pointer (some ⟨b, off, none⟩)) (w := w) ?_ (Out.same hI (by simp only [Rel]; exact ⟨b, m, hi, rfl⟩))
      simp [execOp, ho, hv, Instr.arrayAt, run_underlying hu w, Nat.not_lt.2 (bleT.1 hle)]
    · cases h
  · cases h
end Go.Proofs.Bc
