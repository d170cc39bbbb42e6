/- The executor's operations against the model's, one by one. -/
import Derived.Test.YtglbbdailankpaaGreatDoorXC
namespace Go.Proofs.Bc
open Go
variable {P : Program}

theorem lay_length {α : Type} {k : Nat} {vs c : List α} (h : vs = [] ∨ k + vs.length ≤ c.length) : (lay k vs c).length = c.length := by
  unfold lay
  rcases h with rfl | h
  · simp
  · simp; omega
theorem lay_take {α : Type} {k n : Nat} {vs c : List α} (h : vs = [] ∨ k + vs.length ≤ n) (hn : n ≤ c.length) : (lay k vs c).take n = lay k vs (c.take n) := by
  unfold lay
  rcases h with rfl | h
  · simp
  · have hl : (c.take k ++ vs).length = k + vs.length := by simp; omega
    rw [List.take_append, hl, List.take_of_length_le (by omega), List.take_take, Nat.min_eq_left (by omega), List.drop_take]

theorem all_isCell {ι : Ren} : ∀ {as : List AV} {vs : List Value}, Rels ι as vs → as.all AV.isCell = true → ∀ v ∈ vs, v.oneCell' = true
  | [], vs, h, _, v, hv => by rw [Rels.nil_iff] at h; subst h; cases hv
  | a :: as, vs, h, hc, v, hv => by
    rw [Rels.cons_iff] at h
    obtain ⟨u, r, h1, h2, rfl⟩ := h
    simp only [List.all_cons, Bool.and_eq_true] at hc
    rcases List.mem_cons.1 hv with rfl | hv
    · exact h1.isCell hc.1
    · exact all_isCell h2 hc.2 v hv

theorem writeX_spec {ι : Ren} {st st' : St} {w : World} (hI : Inv P ι st w) {l off : Nat} {vs : List AV} {us : List Value} (h : writeX st l off vs = some st') (hv : Rels ι vs us) :
    ∃ b k w', ι l = some (b, k) ∧ (storeCells ⟨b, off, none⟩ us).run P w = .ok () w' ∧ Post P ι st w ι st' w' := by
  unfold writeX at h
  split at h
  · rename_i hall
    split at h
    · rename_i cs t hl
      split at h
      · rename_i cs' hlay
        obtain ⟨h1, h2⟩ := layX_eq _ _ _ _ hlay
        subst h1
        have hlo := (turn_eq h).1
        obtain ⟨b, k, ob, hi, hb, ho, hfz⟩ := hI.heap.at_ _ _ hl
        obtain ⟨c, fr, rfl, hk, hle, hr⟩ := ho
        have hfz' := hfz (Nat.le_trans hI.glo hlo)
        have hlen := hv.length
        have hbound : us = [] ∨ off + 0 + us.length ≤ c.length := by
          rcases h2 with rfl | h2
          · left; simpa [Rels.nil_iff] using hv
          · right; omega
        have hbound2 : us = [] ∨ off + us.length ≤ cs.length := by
          rcases h2 with rfl | h2
          · left; simpa [Rels.nil_iff] using hv
          · right; omega
        obtain ⟨w', hrun, hb', hon⟩ := run_storeCells_row (P := P) b off t fr us 0 w c hb hbound (by simpa [unfrozen] using hfz') (all_isCell hv hall)
        refine ⟨b, k, w', hi, hrun, Post.turn hI h hl hi _ hb' ⟨_, fr, rfl, ?_, ?_, ?_⟩ ?_ hon.size hon.other hon.os hon.tape hon.output⟩
        · rw [Nat.add_zero, lay_length (by simpa using hbound)]; exact hk
        · rw [lay_length h2]; exact hle
        · rw [lay_length h2, Nat.add_zero, lay_take hbound2 (by omega)]
          exact hr.lay off hv
        · show ∀ i, i < _ → _
          simp only [Nat.add_zero, List.size_toArray]
          rw [lay_length (by simpa using hbound)]
          simpa [unfrozen] using hfz'
      · cases h
    · cases h
  · cases h

/-- What a step hands back and leaves. -/
def Out (P : Program) (ι : Ren) (st : St) (w : World) (a : AV) (st' : St) : Value → World → Prop := fun v w' => ∃ ι', Rel ι' a v ∧ Post P ι st w ι' st' w'

/-- How an operation's run is answered ('rec': recover() hands back nil). -/
def OpRes (P : Program) (rec : Bool) (R : Value → World → Prop) : Result Next → Prop
  | .ok (.value v) w' => R v w'
  | .ok .skip w' => R undef w'
  | .ok .recover w' => rec = true ∧ R .nilIface w'
  | .ok (.enter f args) w' => rec = false ∧ ∀ n, CallsIn Fence.wide n P f args w' fun e w'' => ∃ v, e = .returned v ∧ R v w''
  | .ok (.round l f tmps assign body) w' => rec = false ∧ ∀ n, RoundIn Fence.wide n P l f tmps assign body w' fun e w'' => ∃ v, e = .returned v ∧ R v w''
  | _ => False

theorem OpRes.value {rec : Bool} {R : Value → World → Prop} {r : Result Next} {v : Value} {w : World} (h : r = .ok (.value v) w) (k : R v w) : OpRes P rec R r := by subst h; exact k
theorem OpRes.skip {rec : Bool} {R : Value → World → Prop} {r : Result Next} {w : World} (h : r = .ok .skip w) (k : R undef w) : OpRes P rec R r := by subst h; exact k

variable {ι : Ren} {st st' : St} {w : World} {a : AV} {rec : Bool}

theorem Out.same {v : Value} (hI : Inv P ι st w) (h : Rel ι a v) : Out P ι st w a st v w := ⟨ι, h, Post.refl hI⟩

theorem valX_inv {v : Option AV} (h : valX v st = some (.val a st')) : v = some a ∧ st' = st := by
  cases v with
  | none => cases h
  | some x => simp only [valX, Option.some.injEq, ORes.val.injEq] at h; exact ⟨by rw [h.1], h.2.symm⟩
theorem pairX_inv {v : Option (AV × St)} (h : pairX v = some (.val a st')) : v = some (a, st') := by
  cases v with
  | none => cases h
  | some x => obtain ⟨x, y⟩ := x; simp only [pairX, Option.some.injEq, ORes.val.injEq] at h; rw [h.1, h.2]
theorem stX_inv {v : Option St} (h : stX v = some (.val a st')) : v = some st' ∧ a = undefA := by
  cases v with
  | none => cases h
  | some x => simp only [stX, Option.some.injEq, ORes.val.injEq] at h; exact ⟨by rw [h.2], h.1.symm⟩
theorem rel_undef (ι : Ren) : Rel ι undefA undef := by simp only [undefA, Rel]; exact ⟨[], Rels.nil_iff.2 rfl, rfl⟩

/-- Values of a list of cells, made into a row. -/
theorem newRowX_spec (hI : Inv P ι st w) {t : TypeId} {cs : List AV} {l : Nat} (h : newRowX st t cs = some (l, st')) {vs : List Value} (hv : Rels ι cs vs) (fr : Nat × Nat) (more : List Value)
    (hfr : ∀ i, i < (vs ++ more).length → ¬ (fr.1 ≤ i ∧ i < fr.2)) :
    ∃ ι', Post P ι st w ι' st' (w.alloc (.cells ⟨vs ++ more⟩ t fr)) ∧ ι' l = some (w.heap.size, (vs ++ more).length) := by
  unfold newRowX at h
  split at h
  · have := Post.new hI h (.cells ⟨vs ++ more⟩ t fr) (vs ++ more).length ⟨_, fr, rfl, rfl, by rw [List.length_append, hv.length]; omega, by rw [← hv.length, List.take_left']; exact hv; rfl⟩ (by simpa [unfrozen] using hfr)
    exact ⟨_, this⟩
  · cases h

variable {ev : Operand → Value} {ρ : Operand → Option AV}

theorem op_pick {c x y : Operand} {o : Oper} (ho : o.op = .pick c x y) (h : opPick (ρ c) (ρ x) (ρ y) st = some (.val a st')) (hρ : ∀ x ∈ o.op.operands, ∀ a, ρ x = some a → Rel ι a (ev x)) (hI : Inv P ι st w) :
    OpRes P rec (Out P ι st w a st') ((execOp ev o).run P w) := by
  unfold opPick at h
  rw [ho] at hρ
  split at h
  · rename_i hc
    obtain ⟨h1, rfl⟩ := valX_inv h
    have hc' := hρ c (by simp [Op.operands]) _ hc
    simp only [Rel] at hc'
    refine OpRes.value (v := ev x) (w := w) (by simp [execOp, ho, hc', asBool]) (Out.same hI (hρ x (by simp [Op.operands]) _ h1))
  · rename_i hc
    obtain ⟨h1, rfl⟩ := valX_inv h
    have hc' := hρ c (by simp [Op.operands]) _ hc
    simp only [Rel] at hc'
    refine OpRes.value (v := ev y) (w := w) (by simp [execOp, ho, hc', asBool]) (Out.same hI (hρ y (by simp [Op.operands]) _ h1))
  · cases h

theorem op_load {t : TypeId} {x : Operand} {o : Oper} (ho : o.op = .load t x) (h : opLoad P t (ρ x) st = some (.val a st')) (hρ : ∀ x ∈ o.op.operands, ∀ a, ρ x = some a → Rel ι a (ev x)) (hI : Inv P ι st w) :
    OpRes P rec (Out P ι st w a st') ((execOp ev o).run P w) := by
  unfold opLoad at h
  rw [ho] at hρ
  split at h
  · rename_i l off hx
    obtain ⟨h1, rfl⟩ := valX_inv h
    have hx' := hρ x (by simp [Op.operands]) _ hx
    simp only [Rel] at hx'
    obtain ⟨b, n, hi, hv⟩ := hx'
    obtain ⟨b', k, v, hi', hrun, hrel⟩ := loadX_spec hI h1
    rw [hi] at hi'
    cases hi'
    exact OpRes.value (v := v) (w := w) (by simp [execOp, ho, hv, Instr.loadAt, Instr.sureAddr, hrun]) (Out.same hI hrel)
  · cases h

theorem op_store {t : TypeId} {x y : Operand} {o : Oper} (ho : o.op = .store t x y) (h : opStore P t (ρ x) (ρ y) st = some (.val a st')) (hρ : ∀ x ∈ o.op.operands, ∀ a, ρ x = some a → Rel ι a (ev x)) (hI : Inv P ι st w) :
    OpRes P rec (Out P ι st w a st') ((execOp ev o).run P w) := by
  unfold opStore at h
  rw [ho] at hρ
  split at h
  · rename_i l off v hx hy
    split at h
    · rename_i n hs
      split at h
      · rename_i hn
        obtain ⟨h1, rfl⟩ := stX_inv h
        have hx' := hρ x (by simp [Op.operands]) _ hx
        have hy' := hρ y (by simp [Op.operands]) _ hy
        simp only [Rel] at hx'
        obtain ⟨b, n', hi, hv⟩ := hx'
        obtain ⟨b', k, w', hi', hrun, hpost⟩ := writeX_spec hI h1 hy'.cells
        rw [hi] at hi'
        cases hi'
        refine OpRes.skip (w := w') ?_ ⟨ι, rel_undef ι, hpost⟩
        have hsz : (ev y).cells.size = n := by
          rw [← Array.length_toList, hy'.cells.length]; exact beqT.1 hn
        simp [execOp, ho, hv, Instr.storeAt, Instr.sureAddr, storeVar, run_sizeX hs w, hsz, hrun]
      · cases h
    · cases h
  · cases h
end Go.Proofs.Bc
