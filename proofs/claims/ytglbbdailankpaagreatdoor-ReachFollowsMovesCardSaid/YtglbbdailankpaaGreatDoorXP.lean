/- The executor's frames and regions against the model's. -/
import Derived.Test.YtglbbdailankpaaGreatDoorXO
namespace Go.Proofs.Bc
open Go
variable {P : Program} {ι : Ren} {st st' : St} {w : World} {a : Act}

theorem getD_tmps {ts : Array Value} {t : Nat} : ts.getD t undef = (ts[t]?).getD undef := by rw [Array.getD_eq_getD_getElem?]

theorem TmRel.put {tm tm' : Tr AV} {nt d : Nat} {tmps : Array Value} {v : AV} {u : Value} (h : TmRel ι tm nt tmps) (hd : d < nt) (hp : Tr.put fuelT tm d (some v) = some tm') (hv : Rel ι v u) : TmRel ι tm' nt (tmps.setIfInBounds d u) := by
  refine ⟨fun t x e => ?_, by simpa using h.size⟩
  rw [Tr.get_put _ _ _ _ _ hp] at e
  by_cases ht : t = d
  · subst ht
    rw [if_pos rfl] at e
    cases e
    rw [getD_tmps, Array.getElem?_setIfInBounds_self_of_lt (by rw [h.size]; exact hd)]
    exact hv
  · rw [if_neg ht] at e
    rw [getD_tmps, Array.getElem?_setIfInBounds_ne (Ne.symm ht), ← getD_tmps]
    exact h.get t x e

theorem FrRel.put {fr fr' : Fr} {d : Option Tmp} {v : AV} {u : Value} (h : FrRel ι fr a) (hp : fr.put d v = some fr') (hv : Rel ι v u) : FrRel ι fr' (a.put d u) := by
  unfold Fr.put at hp
  split at hp
  · simp only [Option.some.injEq] at hp
    subst hp
    exact h
  · rename_i d
    split at hp
    · rename_i hlt
      split at hp
      · rename_i tm hput
        simp only [Option.some.injEq] at hp
        subst hp
        exact ⟨h.tm.put (bltT.1 hlt) hput hv, h.ds⟩
      · cases hp
    · cases hp

theorem putV_eq {fr : Fr} {d : Option Tmp} {v : AV} : putV fr d v st = match fr.put d v with
  | some fr' => some (fr', st)
  | none => none := by unfold putV; rw [forceV_eq]; cases fr.put d v <;> rfl
theorem putV_inv {fr fr' : Fr} {d : Option Tmp} {v : AV} (h : putV fr d v st = some (fr', st')) : fr.put d v = some fr' ∧ st' = st := by
  rw [putV_eq] at h
  split at h
  · rename_i x e
    simp only [Option.some.injEq, Prod.mk.injEq] at h
    obtain ⟨rfl, rfl⟩ := h
    exact ⟨e, rfl⟩
  · cases h

theorem eval_rel {fr : Fr} (h : TmRel ι fr.tm fr.nt a.tmps) (hI : Inv P ι st w) (x : Operand) (v : AV) (e : fr.eval P x = some v) : Rel ι v (a.eval x) := by
  cases x with
  | tmp t => exact h.get t v e
  | const c =>
    simp only [Fr.eval, constX] at e
    split at e
    · simp only [Option.some.injEq] at e; subst e; simp [Rel, Act.eval]
    · simp only [Option.some.injEq] at e; subst e; simp [Rel, Act.eval]
    · simp only [Option.some.injEq] at e; subst e; simp [Rel, Act.eval]
    · exact of_rel ι _ _ _ e
  | global g =>
    simp only [Fr.eval] at e
    split at e
    · rename_i hg
      simp only [Option.some.injEq] at e
      subst e
      obtain ⟨n, hn⟩ := hI.glob g (bltT.1 hg)
      simp only [Rel, Act.eval]
      exact ⟨g, n, hn, rfl⟩
    · cases e
  | func f =>
    simp only [Fr.eval, Option.some.injEq] at e
    subst e
    simp only [Rel, Act.eval]
    exact ⟨.func f, [], [], rfl, Rels.nil_iff.2 rfl, Rels.nil_iff.2 rfl, rfl⟩

theorem wantedX_spec {ops : Array Oper} {o : Oper} {fr : Fr} {b : Bool} (h : wantedX ops.toList o fr = some b) (hr : ∀ j want p d, o.guard = some (j, want) → nthX j ops.toList = some p → p.dst = some d → ∀ v, fr.tm.get d = some v → Rel ι v (a.tmps.getD d undef)) :
    Region.wanted o (yielded ops a.tmps) = b := by
  unfold wantedX at h
  unfold Region.wanted
  split at h
  · rename_i hg
    simp only [Option.some.injEq] at h
    rw [hg, ← h]
  · rename_i j want hg
    rw [hg]
    simp only
    split at h
    · rename_i p hp
      split at h
      · rename_i d hd
        have hops : ops[j]? = some p := by
          have := nthX_eq _ _ _ hp
          simpa using this
        have hrel := hr j want p d hg hp hd
        unfold yielded
        simp only [hops, Option.bind_some, hd]
        split at h
        · rename_i b0 hb
          simp only [Option.some.injEq] at h
          have := hrel _ hb
          simp only [Rel] at this
          rw [getD_tmps] at this
          cases e : a.tmps[d]? with
          | none => rw [e] at this; cases this
          | some v =>
            rw [e] at this
            simp only [Option.getD_some] at this
            subst this
            simpa using h
        · rename_i hb
          simp only [Option.some.injEq] at h
          have := hrel _ hb
          simp only [Rel] at this
          obtain ⟨vs, hvs, this⟩ := this
          rw [Rels.nil_iff] at hvs
          subst hvs
          rw [getD_tmps] at this
          cases e : a.tmps[d]? with
          | none => simpa using h
          | some v =>
            rw [e] at this
            simp only [Option.getD_some] at this
            subst this
            simpa using h
        · cases h
      · cases h
    · cases h

/-- The fences that are met: a plain frame's, a round's. -/
def modeF (mode : Nat) (F : Fence) : Prop := (mode = 0 ∧ F = Fence.wide) ∨ (mode = 1 ∧ ∃ l, F = Fence.wide.inRound l)

theorem modeF.fn {mode : Nat} {F : Fence} (h : modeF mode F) (f : FuncId) : F.fn f := by
  rcases h with ⟨_, rfl⟩ | ⟨_, l, rfl⟩ <;> trivial
theorem modeF.not2 {mode : Nat} {F : Fence} (h : modeF mode F) : (mode == 2) = false := by
  rcases h with ⟨rfl, _⟩ | ⟨rfl, _⟩ <;> rfl
theorem modeF.depth {mode : Nat} {F : Fence} (h : modeF mode F) : F.depth.isSome = true → False := by
  rcases h with ⟨_, rfl⟩ | ⟨_, l, rfl⟩ <;> simp [Fence.wide, Fence.inRound]
theorem modeF.calls {mode : Nat} {F : Fence} (h : modeF mode F) {n : Nat} {f : FuncId} {args : Array Value} {R : Ending → World → Prop} (k : CallsIn Fence.wide n P f args w R) : CallsIn F n P f args w R := by
  rcases h with ⟨_, rfl⟩ | ⟨_, l, rfl⟩
  · exact k
  · exact k
theorem modeF.rounds {mode : Nat} {F : Fence} (h : modeF mode F) {n l : Nat} {f : FuncId} {tmps : Array Value} {x y : Code} {R : Ending → World → Prop} (k : RoundIn Fence.wide n P l f tmps x y w R) : RoundIn F n P l f tmps x y w R := by
  rcases h with ⟨_, rfl⟩ | ⟨_, l, rfl⟩
  · exact k
  · exact k

theorem upon_of_opRes {mode : Nat} {F : Fence} (hF : modeF mode F) {n : Nat} {o : Oper} {R : Value → World → Prop} {next : Act → World → Prop} {Q : Exit → Act → World → Prop} {r : Result Next} (h : OpRes P false R r) (hn : ∀ v w', R v w' → next (a.put o.dst v) w') :
    o.uponIn F n P a next Q r := by
  cases r with
  | halt x w' => exact h.elim
  | ok x w' =>
    cases x with
    | value v => exact hn v w' h
    | skip => exact hn _ w' h
    | enter f args =>
      refine ⟨fun hd => (hF.depth hd).elim, (hF.calls (h.2 (n - 1))).mono ?_⟩
      rintro e w'' ⟨v, rfl, hR⟩
      exact hn v w'' hR
    | round l f tmps x y =>
      refine ⟨fun hd => (hF.depth hd).elim, (hF.rounds (h.2 (n - 1))).mono ?_⟩
      rintro e w'' ⟨v, rfl, hR⟩
      exact hn v w'' hR
    | recover => exact (Bool.false_ne_true h.1).elim
    | _ => exact h.elim

theorem opX_val_nodefer {T : Tools} {mode : Nat} {o : Oper} {ρ : Operand → Option AV} {v : AV} (h : opX P T mode o ρ st = some (.val v st')) : ∀ c, o.op ≠ .defer c := by
  intro c ho
  simp only [opX, ho] at h
  unfold opDefer at h
  split at h
  · split at h
    · split at h <;> cases h
    · cases h
  · cases h

/-- One operation, whatever comes next. -/
theorem step_sound {T : Tools} (hT : CallOK P T) {mode : Nat} {F : Fence} (hF : modeF mode F) {n : Nat} {ops : Array Oper} {o : Oper} {fr fr' : Fr} (h : stepX P T mode ops.toList o fr st = some (fr', st')) (hfr : FrRel ι fr a) (hI : Inv P ι st w)
    {next : Act → World → Prop} {Q : Exit → Act → World → Prop} (hn : ∀ a' w' ι', FrRel ι' fr' a' → Post P ι st w ι' st' w' → next a' w') :
    if Region.wanted o (yielded ops a.tmps) then o.wpIn F n P a w next Q else (∀ f, o.about P w a.eval = some f → F.fn f) ∧ next (a.put o.dst undef) w := by
  unfold stepX at h
  have hw := fun b (hb : wantedX ops.toList o fr = some b) => wantedX_spec (ι := ι) (a := a) hb (fun j want p d _ _ _ v hv => hfr.tm.get d v hv)
  have hρ : ∀ x ∈ o.op.operands, ∀ v, fr.eval P x = some v → Rel ι v (a.eval x) := fun x _ v hv => eval_rel hfr.tm hI x v hv
  split at h
  · rename_i hwx
    rw [hw true hwx, if_pos rfl]
    refine ⟨fun f _ => hF.fn f, ?_⟩
    unfold stepResX at h
    split at h
    · rename_i v st2 hop
      obtain ⟨hput, rfl⟩ := putV_inv h
      rw [Oper.semAt_eq _ _ _ (opX_val_nodefer hop)]
      have hres := op_sound (ev := a.eval) hT hop hρ hI
      rw [hF.not2] at hres
      refine upon_of_opRes hF hres ?_
      rintro u w' ⟨ι', hrel, hp⟩
      exact hn _ w' ι' ((hfr.mono hp.sub).put hput hrel) hp
    · rename_i d hop
      split at h
      · rename_i hd
        obtain ⟨hput, rfl⟩ := putV_inv h
        obtain ⟨hm, d', hrun, hdr⟩ := op_defer (ev := a.eval) hd hop hρ w
        have hF0 : F = Fence.wide := by
          rcases hF with ⟨_, e⟩ | ⟨e, _⟩
          · exact e
          · rw [hm] at e; cases e
        subst hF0
        rw [show Fence.wide.round = none from rfl, Oper.semAt_none, hrun, Oper.uponIn_defer]
        refine hn _ w ι ?_ (Post.refl hI)
        have h2 : FrRel ι { tm := fr.tm, nt := fr.nt, ds := d :: fr.ds } { a with defers := d' :: a.defers } := ⟨hfr.tm, d', a.defers, hdr, hfr.ds, rfl⟩
        exact h2.put hput (rel_undef ι)
      · cases h
    · cases h
  · rename_i hwx
    rw [hw false hwx, if_neg (by decide)]
    obtain ⟨hput, rfl⟩ := putV_inv h
    exact ⟨fun f _ => hF.fn f, hn _ w ι (hfr.put hput (rel_undef ι)) (Post.refl hI)⟩
  · cases h

/-- A region in the order of its text. -/
theorem ops_sound {T : Tools} (hT : CallOK P T) {mode : Nat} {F : Fence} (hF : modeF mode F) {n : Nat} {ops : Array Oper} {Q : Exit → Act → World → Prop} :
    ∀ (c i : Nat) {ι : Ren} {st st' : St} {w : World} {a : Act} {fr fr' : Fr}, ops.size - i = c → i ≤ ops.size → opsX P T mode ops.toList (ops.toList.drop i) fr st = some (fr', st') → FrRel ι fr a → Inv P ι st w →
      (∀ a' w' ι', FrRel ι' fr' a' → Post P ι st w ι' st' w' → Q .normal a' w') → wpOpsIn F n P ops Q ((List.range ops.size).drop i) a w := by
  intro c
  induction c with
  | zero =>
    intro i ι st st' w a fr fr' hc hi h hfr hI hQ
    have : i = ops.size := by omega
    subst this
    rw [List.drop_of_length_le (by simp)] at h
    simp only [opsX, Option.some.injEq, Prod.mk.injEq] at h
    obtain ⟨rfl, rfl⟩ := h
    rw [List.drop_of_length_le (by simp)]
    exact hQ a w ι hfr (Post.refl hI)
  | succ c ih =>
    intro i ι st st' w a fr fr' hc hi h hfr hI hQ
    have hlt : i < ops.size := by omega
    have hd1 : ops.toList.drop i = ops[i] :: ops.toList.drop (i + 1) := by
      rw [List.drop_eq_getElem_cons (by simpa using hlt)]; rfl
    have hd2 : (List.range ops.size).drop i = i :: (List.range ops.size).drop (i + 1) := by
      rw [List.drop_eq_getElem_cons (by simpa using hlt)]; simp
    rw [hd1, opsX] at h
    rw [hd2, wpOpsIn]
    rw [Array.getElem?_eq_getElem hlt]
    simp only
    split at h
    · rename_i fr1 st1 hstep
      exact step_sound hT hF hstep hfr hI (fun a' w' ι' hfr' hp => ih (i + 1) (by omega) (by omega) h hfr' hp.inv (fun a2 w2 ι2 hfr2 hp2 => hQ a2 w2 ι2 hfr2 (hp.trans hp2)))
    · cases h
end Go.Proofs.Bc
