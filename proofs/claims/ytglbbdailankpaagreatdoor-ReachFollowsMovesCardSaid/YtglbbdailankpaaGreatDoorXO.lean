/- The executor's operations against the model's: all of them. -/
import Derived.Test.YtglbbdailankpaaGreatDoorXN
namespace Go.Proofs.Bc
open Go
variable {P : Program} {ι : Ren} {st st' : St} {w : World} {a : AV} {ev : Operand → Value} {ρ : Operand → Option AV}

/-- Calls and rounds by the tools. -/
structure CallOK (P : Program) (T : Tools) : Prop where
  call : ∀ g args st a st', T.call g args st = some (a, st') → ∀ ι w vs, Rels ι args vs → Inv P ι st w → OpRes P false (Out P ι st w a st') ((callFunc g ⟨vs⟩).run P w)
  round : ∀ l args st a st', T.round l args st = some (a, st') → ∀ ι w b n vs, ι l = some (b, n) → Rels ι args vs → Inv P ι st w → OpRes P false (Out P ι st w a st') ((Instr.yield b ⟨vs⟩).run P w)

theorem OpRes.not {rec : Bool} {R : Value → World → Prop} {r : Result Next} (h : OpRes P false R r) : OpRes P rec R r ∨ rec = true := by
  cases rec with
  | false => exact .inl h
  | true => exact .inr rfl

theorem args_rel {c : Call} {o : Oper} (ho : o.op = .call c) {as : List AV} (h : mapX ρ c.args.toList = some as) (hρ : ∀ x ∈ o.op.operands, ∀ a, ρ x = some a → Rel ι a (ev x)) : Rels ι as (c.args.map ev).toList := by
  rw [ho] at hρ
  have := mapX_ops (ι := ι) (ev := ev) h (fun z hz => hρ z (by simp [Op.operands, Call.operands]; right; simpa using hz))
  simpa using this

theorem op_callVal {T : Tools} (hT : CallOK P T) {mode : Nat} {c : Call} {f : Operand} {o : Oper} (ho : o.op = .call c) (hc : c.callee = .value f) (h : opCallVal T mode (ρ f) (mapX ρ c.args.toList) st = some (.val a st'))
    (hρ : ∀ x ∈ o.op.operands, ∀ a, ρ x = some a → Rel ι a (ev x)) (hI : Inv P ι st w) :
    OpRes P (mode == 2) (Out P ι st w a st') ((execOp ev o).run P w) := by
  unfold opCallVal at h
  split at h
  · cases h
  · rename_i mo _ x1 x2 fv args hm hf hargs
    have hm2 : (mo == 2) = false := by
      have : mo ≠ 2 := fun e => hm e
      simpa using this
    rw [hm2]
    have hfr : Rel ι fv (ev f) := hρ f (by rw [ho]; simp [Op.operands, Call.operands, hc]) _ hf
    have har := args_rel (ev := ev) ho hargs hρ
    unfold callValX at h
    split at h
    · rename_i g first cap
      split at h
      · rename_i as1 happ1
        split at h
        · rename_i as2 happ2
          have h1 := pairX_inv h
          have e1 := appX_eq _ _ _ happ1
          have e2 := appX_eq _ _ _ happ2
          subst e1 e2
          simp only [Rel] at hfr
          obtain ⟨g', us, vs, hg, hus, hvs, hv⟩ := hfr
          simp only [FnRel] at hg
          subst hg
          have := hT.call _ _ _ _ _ h1 ι w _ (hus.append (har.append hvs)) hI
          have hexec : execOp ev o = callFunc g ⟨us ++ ((c.args.map ev).toList ++ vs)⟩ := by
            have e3 : (⟨us⟩ ++ c.args.map ev ++ ⟨vs⟩ : Array Value) = ⟨us ++ ((c.args.map ev).toList ++ vs)⟩ := by
              apply Array.toList_inj.1; simp
            rw [← e3]
            simp [execOp, ho, resolve, hc, hv, Deferred.ofValue, invoke]
          rw [hexec]
          exact this
        · cases h
      · cases h
    · rename_i l
      have h1 := pairX_inv h
      simp only [Rel] at hfr
      obtain ⟨g', us, vs, hg, hus, hvs, hv⟩ := hfr
      obtain ⟨b, n, hi, rfl⟩ := hg
      rw [Rels.nil_iff] at hus hvs
      subst hus hvs
      have := hT.round _ _ _ _ _ h1 ι w b n _ hi har hI
      have hexec : execOp ev o = Instr.yield b ⟨(c.args.map ev).toList⟩ := by
        have e3 : (⟨(c.args.map ev).toList⟩ : Array Value) = c.args.map ev := by apply Array.toList_inj.1; rfl
        rw [e3]
        simp [execOp, ho, resolve, hc, hv, Deferred.ofValue, invoke]
      rw [hexec]
      exact this
    · cases h
  · cases h

theorem op_builtin {mode : Nat} {c : Call} {b : Builtin} {o : Oper} (ho : o.op = .call c) (hc : c.callee = .builtin b) (h : opBuiltin P mode o ρ b c.args.toList c.argTypes.toList st = some (.val a st'))
    (hρ : ∀ x ∈ o.op.operands, ∀ a, ρ x = some a → Rel ι a (ev x)) (hI : Inv P ι st w) :
    OpRes P (mode == 2) (Out P ι st w a st') ((execOp ev o).run P w) := by
  unfold opBuiltin at h
  split at h
  · rename_i s x t u ea et
    split at h
    · rename_i sv xv hs hx
      obtain ⟨v, w', hrun, hout⟩ := appendX_spec (ty := o.type) hI (pairX_inv h) (hρ s (by rw [ho]; simp [Op.operands, Call.operands, hc]; rw [← Array.mem_toList_iff, ea]; simp) _ hs) (hρ x (by rw [ho]; simp [Op.operands, Call.operands, hc]; rw [← Array.mem_toList_iff, ea]; simp) _ hx)
      refine OpRes.value (v := v) (w := w') ?_ hout
      have e1 : c.args = #[s, x] := by apply Array.toList_inj.1; simpa using ea
      have e2 : c.argTypes = #[t, u] := by apply Array.toList_inj.1; simpa using et
      simp [execOp, ho, resolve, hc, invoke, builtin, e1, e2, hrun]
    · cases h
  · rename_i d x t u ea et
    split at h
    · rename_i dv xv hs hx
      obtain ⟨v, w', hrun, hout⟩ := copyX_spec (u := u) (ty := o.type) hI (pairX_inv h) (hρ d (by rw [ho]; simp [Op.operands, Call.operands, hc]; rw [← Array.mem_toList_iff, ea]; simp) _ hs) (hρ x (by rw [ho]; simp [Op.operands, Call.operands, hc]; rw [← Array.mem_toList_iff, ea]; simp) _ hx)
      refine OpRes.value (v := v) (w := w') ?_ hout
      have e1 : c.args = #[d, x] := by apply Array.toList_inj.1; simpa using ea
      have e2 : c.argTypes = #[t, u] := by apply Array.toList_inj.1; simpa using et
      simp [execOp, ho, resolve, hc, invoke, builtin, e1, e2, hrun]
    · cases h
  · rename_i x t ea et
    exact op_len ho hc ea et h hρ hI
  · split at h
    · simp only [Option.some.injEq, ORes.val.injEq] at h
      obtain ⟨rfl, rfl⟩ := h
      have hrun : (execOp ev o).run P w = .ok .recover w := by
        simp [execOp, ho, resolve, hc, invoke, builtin]
      rw [hrun]
      exact ⟨rfl, Out.same hI (by simp [Rel])⟩
    · cases h
  · exact op_minmax (.inl rfl) ho hc h hρ hI
  · exact op_minmax (.inr rfl) ho hc h hρ hI
  · cases h

theorem op_sound {T : Tools} (hT : CallOK P T) {mode : Nat} {o : Oper} (h : opX P T mode o ρ st = some (.val a st')) (hρ : ∀ x ∈ o.op.operands, ∀ a, ρ x = some a → Rel ι a (ev x)) (hI : Inv P ι st w) :
    OpRes P (mode == 2) (Out P ι st w a st') ((execOp ev o).run P w) := by
  unfold opX at h
  split at h
  · rename_i x ho
    obtain ⟨h1, rfl⟩ := valX_inv h
    exact OpRes.value (v := ev x) (w := w) (by simp [execOp, ho]) (Out.same hI (hρ x (by rw [ho]; simp [Op.operands]) _ h1))
  · rename_i x ho
    obtain ⟨h1, rfl⟩ := valX_inv h
    exact OpRes.value (v := ev x) (w := w) (by simp [execOp, ho]) (Out.same hI (hρ x (by rw [ho]; simp [Op.operands]) _ h1))
  · rename_i ho; exact op_pick ho h hρ hI
  · rename_i ho; exact op_load ho h hρ hI
  · rename_i ho; exact op_store ho h hρ hI
  · rename_i ho; exact op_alloc ho h hI
  · rename_i ho; exact op_box ho h hρ hI
  · rename_i ho; exact op_build ho h hρ hI
  · rename_i ho; exact op_buildSlice ho h hρ hI
  · rename_i ho; exact op_fieldAddr ho h hρ hI
  · rename_i ho; exact op_indexAddr ho h hρ hI
  · rename_i ho; exact op_slice ho h hρ hI
  · rename_i ho; exact op_makeSlice ho h hρ hI
  · rename_i ho; exact op_makeFunc ho h hρ hI
  · rename_i ho; exact op_makeMap ho h hI
  · rename_i ho; exact op_lookup ho h hρ hI
  · rename_i ho; exact op_update ho h hρ hI
  · rename_i ho; exact op_range ho h hρ hI
  · rename_i ho; exact op_next ho h hρ hI
  · rename_i ho; exact op_entry ho h hρ hI
  · rename_i ho; exact op_extract ho h hρ hI
  · rename_i ho; exact op_field ho h hρ hI
  · rename_i ho; exact op_nilCheck ho h hρ hI
  · rename_i ho; exact op_convert ho h hρ hI
  · rename_i ho; exact op_s2ap ho h hρ hI
  · rename_i ho; exact op_bin ho h hρ hI
  · rename_i ho; exact op_un ho h hρ hI
  · rename_i t x i ho
    exact op_pure2 h (hρ x (by rw [ho]; simp [Op.operands])) (hρ i (by rw [ho]; simp [Op.operands])) (fun f g h1 h2 => by simp only [execOp, ho, h1, h2]) hI
  · rename_i x t1 t2 ok ho
    exact op_pure1 h (hρ x (by rw [ho]; simp [Op.operands])) (fun f g h1 => by simp only [execOp, ho, h1]) hI
  · unfold opDefer at h
    split at h
    · split at h
      · split at h <;> cases h
      · cases h
    · cases h
  · rename_i c ho
    unfold opCall at h
    split at h
    · rename_i f hc
      exact op_callVal hT ho hc h hρ hI
    · rename_i b hc
      exact op_builtin ho hc h hρ hI
    · cases h
  · cases h

/-- A deferred call. -/
theorem op_defer {T : Tools} {mode : Nat} {o : Oper} {d : ADef} (hd : isDefer o = true) (h : opX P T mode o ρ st = some (.defer d)) (hρ : ∀ x ∈ o.op.operands, ∀ a, ρ x = some a → Rel ι a (ev x)) (w : World) :
    mode = 0 ∧ ∃ d', (execOp ev o).run P w = .ok (.defer d') w ∧ DefRel ι d d' := by
  unfold isDefer at hd
  split at hd
  · rename_i c ho
    simp only [opX, ho] at h
    unfold opDefer at h
    split at h
    · rename_i f hc
      split at h
      · rename_i fn first cap args hf hargs
        split at h
        · rename_i as hp happ
          simp only [Option.some.injEq, ORes.defer.injEq] at h
          subst h
          have e1 := appX_eq _ _ _ happ
          subst e1
          have hfr : Rel ι (.func fn first cap) (ev f) := hρ f (by rw [ho]; simp [Op.operands, Call.operands, hc]) _ hf
          have har : Rels ι args (c.args.map ev).toList := by
            have := mapX_ops (ι := ι) (ev := ev) hargs (fun z hz => hρ z (by rw [ho]; simp [Op.operands, Call.operands]; right; simpa using hz))
            simpa using this
          simp only [Rel] at hfr
          obtain ⟨g', us, vs, hg, hus, hvs, hv⟩ := hfr
          have hgf : g' = fn := by cases fn <;> first | exact hg | cases hp
          subst hgf
          refine ⟨rfl, { target := .fn g' ⟨vs⟩, args := ⟨us ++ (c.args.map ev).toList⟩ }, ?_, vs, us ++ (c.args.map ev).toList, hp, hvs, hus.append har, rfl⟩
          have e3 : (⟨us⟩ ++ c.args.map ev : Array Value) = ⟨us ++ (c.args.map ev).toList⟩ := by apply Array.toList_inj.1; simp
          rw [← e3]
          simp [execOp, ho, resolve, hc, hv, Deferred.ofValue]
        · cases h
      · cases h
    · cases h
  · cases hd
end Go.Proofs.Bc
