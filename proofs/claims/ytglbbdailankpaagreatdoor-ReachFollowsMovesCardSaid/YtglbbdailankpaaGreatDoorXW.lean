/- The executor's calls against the model's: deferred calls; the tools. -/
import Derived.Test.YtglbbdailankpaaGreatDoorXV
namespace Go.Proofs.Bc
open Go
variable {P : Program}

section
variable {T : Tools} {ι : Ren} {st st' : St} {w : World} {a : Act}

/-! ### A deferred call's frame -/
theorem ops2_sound (hT : CallOK P T) {n : Nat} {ops : Array Oper} {Q : Exit → Act → List Frame → World → Prop} {cs : List Frame} (hcs : recoverD cs = none) :
    ∀ (c i : Nat) {ι : Ren} {st st' : St} {w : World} {a : Act} {fr fr' : Fr}, ops.size - i = c → i ≤ ops.size → opsX P T 2 ops.toList (ops.toList.drop i) fr st = some (fr', st') → FrRel ι fr a → Inv P ι st w →
      (∀ a' w' ι', FrRel ι' fr' a' → Post P ι st w ι' st' w' → Q .normal a' cs w') → wpOpsSIn Fence.wide n P ops Q ((List.range ops.size).drop i) a cs w := by
  intro c
  induction c with
  | zero =>
    intro i ι st st' w a fr fr' hc hi h hfr hI hQ
    have : i = ops.size := by omega
    subst this
    rw [List.drop_of_length_le (by simp)] at h
    simp only [opsX, Option.some.injEq, Prod.mk.injEq] at h
    obtain ⟨rfl, rfl⟩ := h
    rw [List.drop_of_length_le (by simp)]
    exact hQ a w ι hfr (Post.refl hI)
  | succ c ih =>
    intro i ι st st' w a fr fr' hc hi h hfr hI hQ
    have hlt : i < ops.size := by omega
    have hd1 : ops.toList.drop i = ops[i] :: ops.toList.drop (i + 1) := by
      rw [List.drop_eq_getElem_cons (by simpa using hlt)]; rfl
    have hd2 : (List.range ops.size).drop i = i :: (List.range ops.size).drop (i + 1) := by
      rw [List.drop_eq_getElem_cons (by simpa using hlt)]; simp
    rw [hd1, opsX] at h
    rw [hd2, wpOpsSIn]
    rw [Array.getElem?_eq_getElem hlt]
    simp only
    split at h
    · rename_i fr1 st1 hstep
      have next : ∀ {a' w' ι'}, FrRel ι' fr1 a' → Post P ι st w ι' st1 w' → wpOpsSIn Fence.wide n P ops Q ((List.range ops.size).drop (i + 1)) a' cs w' := fun {a' w' ι'} hfr' hp => ih (i + 1) (by omega) (by omega) h hfr' hp.inv (fun a2 w2 ι2 hfr2 hp2 => hQ a2 w2 ι2 hfr2 (hp.trans hp2))
      refine ⟨fun _ _ => trivial, ?_⟩
      unfold stepX at hstep
      have hw := fun b (hb : wantedX ops.toList ops[i] fr = some b) => wantedX_spec (ι := ι) (a := a) hb (fun j want p d _ _ _ v hv => hfr.tm.get d v hv)
      have hρ : ∀ x ∈ ops[i].op.operands, ∀ v, fr.eval P x = some v → Rel ι v (a.eval x) := fun x _ v hv => eval_rel hfr.tm hI x v hv
      split at hstep
      · rename_i hwx
        rw [hw true hwx, if_pos rfl]
        unfold stepResX at hstep
        split at hstep
        · rename_i v st2 hop
          obtain ⟨hput, rfl⟩ := putV_inv hstep
          have hres := op_sound (ev := a.eval) hT hop hρ hI
          have fin : ∀ {u w'}, Out P ι st w v st1 u w' → wpOpsSIn Fence.wide n P ops Q ((List.range ops.size).drop (i + 1)) (a.put ops[i].dst u) cs w' := fun ⟨ι', hrel, hp⟩ => next ((hfr.mono hp.sub).put hput hrel) hp
          cases hr : (execOp a.eval ops[i]).run P w with
          | halt x w' => rw [hr] at hres; exact hres.elim
          | ok x w' =>
            rw [hr] at hres
            cases x with
            | value u => exact fin hres
            | skip => exact fin hres
            | recover => simp only [hcs]; exact fin hres.2
            | enter f args => exact absurd hres.1 (by decide)
            | round l f tmps x y => exact absurd hres.1 (by decide)
            | _ => exact hres.elim
        · rename_i d hop
          split at hstep
          · rename_i hd
            obtain ⟨hm, _⟩ := op_defer (ev := a.eval) hd hop hρ w
            cases hm
          · cases hstep
        · cases hstep
      · rename_i hwx
        rw [hw false hwx, if_neg (by decide)]
        obtain ⟨hput, rfl⟩ := putV_inv hstep
        exact next (hfr.put hput (rel_undef ι)) (Post.refl hI)
      · cases hstep
    · cases h

theorem thenS_ne {K : Act → List Frame → World → Prop} {Q : Exit → Act → List Frame → World → Prop} {e : Exit} {a : Act} {cs : List Frame} {w : World} (he : e ≠ .normal) (h : Q e a cs w) : Exit.thenS K Q e a cs w := by
  cases e <;> first | exact absurd rfl he | exact h

/-- Code in a deferred call's frame. -/
theorem code2_sound (hm : P.follows .mixedOrders = true) (hT : CallOK P T) (hL : LoopOK P T) {fn : FuncId} {n : Nat} {cs : List Frame} (hcs : recoverD cs = none) :
    ∀ (c : Code) {ι : Ren} {st st' : St} {w : World} {a : Act} {fr fr' : Fr} {e : Exit} {Q : Exit → Act → List Frame → World → Prop}, codeX P T 2 fn c fr st = some (e, fr', st') → FrRel ι fr a → Inv P ι st w →
      (∀ a' w' ι', FrRel ι' fr' a' → Post P ι st w ι' st' w' → Q e a' cs w') → c.wpSIn Fence.wide n P Q a cs w := by
  have plain : ∀ (c : Code), (∀ fr st, codeX P T 2 fn c fr st = codeX P T 0 fn c fr st) → ∀ {ι : Ren} {st st' : St} {w : World} {a : Act} {fr fr' : Fr} {e : Exit} {Q : Exit → Act → List Frame → World → Prop}, codeX P T 2 fn c fr st = some (e, fr', st') → FrRel ι fr a → Inv P ι st w →
      (∀ a' w' ι', FrRel ι' fr' a' → Post P ι st w ι' st' w' → Q e a' cs w') → c.wpSIn Fence.wide n P Q a cs w := by
    intro c hc ι st st' w a fr fr' e Q h hfr hI hQ
    rw [hc] at h
    exact wpSIn_of_wpIn rfl (code_sound hm hT hL (.inl ⟨rfl, rfl⟩) c h hfr hI hQ)
  intro c
  induction c with
  | skip => exact plain _ fun _ _ => rfl
  | label l => exact plain _ fun _ _ => rfl
  | exit id => exact plain _ fun _ _ => rfl
  | ret => exact plain _ fun _ _ => rfl
  | goto l => intro ι st st' w a fr fr' e Q h; simp [codeX] at h
  | refuse l => intro ι st st' w a fr fr' e Q h; simp [codeX] at h
  | block id x ih => exact plain _ fun _ _ => rfl
  | loop x ih => exact plain _ fun _ _ => rfl
  | scope x ih => exact plain _ fun _ _ => rfl
  | rangeFunc g ps assign body iha ihb => intro ι st st' w a fr fr' e Q h; simp [codeX] at h
  | region id ops draw =>
    cases draw with
    | true => exact plain _ fun _ _ => rfl
    | false =>
      intro ι st st' w a fr fr' e Q h hfr hI hQ
      rw [codeX] at h
      unfold normX at h
      split at h
      · rename_i fr1 st1 hops
        simp only [Option.some.injEq, Prod.mk.injEq] at h
        obtain ⟨rfl, rfl, rfl⟩ := h
        exact wpSIn_region (ops2_sound hT hcs ops.size 0 rfl (Nat.zero_le _) (by simpa using hops) hfr hI hQ)
      · cases h
  | seq x y ihx ihy =>
    intro ι st st' w a fr fr' e Q h hfr hI hQ
    rw [codeX] at h
    rcases seqX_inv h with ⟨fr1, st1, h1, h2⟩ | ⟨he, h1⟩
    · exact wpSIn_seq (ihx h1 hfr hI fun a1 w1 ι1 hfr1 hp1 => ihy h2 hfr1 hp1.inv fun a2 w2 ι2 hfr2 hp2 => hQ _ _ _ hfr2 (hp1.trans hp2))
    · exact wpSIn_seq (ihx h1 hfr hI fun a1 w1 ι1 hfr1 hp1 => thenS_ne he (hQ _ _ _ hfr1 hp1))
  | cond c x y ihx ihy =>
    intro ι st st' w a fr fr' e Q h hfr hI hQ
    rw [codeX] at h
    unfold condX at h
    split at h
    · rename_i hc
      have := eval_rel hfr.tm hI c _ hc
      simp only [Rel] at this
      exact wpSIn_cond this (ihx h hfr hI hQ)
    · rename_i hc
      have := eval_rel hfr.tm hI c _ hc
      simp only [Rel] at this
      exact wpSIn_cond this (ihy h hfr hI hQ)
    · cases h

/-! ### Entering a function -/
theorem argsX_get : ∀ (vs : List AV) (i : Nat) (t t' : Tr AV), argsX vs i t = some t' → ∀ k, t'.get k = if i ≤ k ∧ k < i + vs.length then vs[k - i]? else t.get k
  | [], i, t, t', h, k => by
    simp only [argsX, Option.some.injEq] at h
    subst h
    rw [if_neg (by simp only [List.length_nil]; omega)]
  | v :: vs, i, t, t', h, k => by
    rw [argsX] at h
    split at h
    · rename_i t1 hput
      rw [argsX_get vs (i + 1) t1 t' h k, Tr.get_put _ _ _ _ _ hput]
      by_cases hk : k = i
      · subst hk
        rw [if_neg (by omega), if_pos rfl, if_pos (by simp), Nat.sub_self]
        rfl
      · rw [if_neg hk]
        by_cases h2 : i + 1 ≤ k ∧ k < i + 1 + vs.length
        · rw [if_pos h2, if_pos (by simp only [List.length_cons]; omega)]
          rw [show k - i = (k - (i + 1)) + 1 by omega]
          simp
        · rw [if_neg h2, if_neg (by simp only [List.length_cons]; omega)]
    · cases h

theorem frame_of_args {args : List AV} {vs : List Value} {tm : Tr AV} {nt : Nat} (h : argsX args 0 .nil = some tm) (hv : Rels ι args vs) (hl : args.length ≤ nt) : TmRel ι tm nt ((⟨vs⟩ : Array Value) ++ Array.replicate (nt - (⟨vs⟩ : Array Value).size) undef) := by
  have hlen := Rels.length hv
  refine ⟨fun t x e => ?_, by simp; omega⟩
  rw [argsX_get _ _ _ _ h t] at e
  split at e
  · rename_i ht
    obtain ⟨v, h1, h2⟩ := hv.get t x (by simpa using e)
    have hlt : t < vs.length := (List.getElem?_eq_some_iff.1 h1).1
    rw [getD_tmps, Array.getElem?_append_left (by simpa using hlt)]
    have : (⟨vs⟩ : Array Value)[t]? = some v := by simpa using h1
    rw [this]
    exact h2
  · simp [Tr.get] at e

theorem overX_cases {e : Exit} (h : overX e = true) : e = .normal ∨ e = .ret := by
  cases e <;> first | exact .inl rfl | exact .inr rfl | cases h

/-! ### Leaving a function -/
theorem leaves_sound (hm : P.follows .mixedOrders = true) (hT : CallOK P T) (hL : LoopOK P T) {n : Nat} {fn : Func} {tmps : Array Value} {R : Ending → World → Prop} {st2 : St} :
    ∀ (ds : List ADef) {dl : List Deferred} {ι : Ren} {st : St} {w : World}, defersX P T ds st = some st2 → DefsRel ι ds dl → Inv P ι st w →
      (∀ w' ι', Post P ι st w ι' st2 w' → ∃ v, (results fn tmps).run P w' = .ok v w' ∧ R (.returned v) w') → LeavesInM Fence.wide n P fn tmps R dl .returning w
  | [], dl, ι, st, w, h, hd, hI, hend => by
    simp only [defersX, Option.some.injEq] at h
    subst h
    simp only [DefsRel] at hd
    subst hd
    exact hend w ι (Post.refl hI)
  | d :: ds, dl, ι, st, w, h, hd, hI, hend => by
    rw [defersX] at h
    obtain ⟨d', r, hd1, hd2, rfl⟩ := hd
    split at h
    · rename_i st1 hdx
      cases d with
      | coll l =>
        rw [deferredX] at hdx
        split at hdx
        · rename_i hl
          obtain ⟨b, k, hi, rfl⟩ := hd1
          obtain ⟨b', k', ob, q1, q2, q3, _⟩ := hI.heap.at_ l _ hl
          rw [hi] at q1
          cases q1
          simp only [ORel] at q3
          subst q3
          have hp := Post.dropTurn (w' := w.putObj b (.deferred none)) hI hdx (by rw [hl]; simp) hi (by simp) (fun k hk => World.putObj_heap_other hk) rfl rfl rfl
          exact ⟨by simp, .inl ⟨b, _, rfl, run_takeDeferred q2, leaves_sound hm hT hL ds h (hd2.mono hp.sub) hp.inv fun w' ι' hp' => hend w' ι' (hp.trans hp')⟩⟩
        · cases hdx
      | fn f cap args =>
        obtain ⟨vs, us, _, hcap, hargs, rfl⟩ := hd1
        rw [deferredX.eq_def] at hdx
        split at hdx
        · rename_i heq
          cases heq
        · rename_i f0 g cap0 args0 heq
          cases heq
          split at hdx
          · rename_i fnx hfn hbody
            split at hdx
            · rename_i body hb
              split at hdx
              · rename_i as happ
                have e1 := appX_eq _ _ _ happ
                subst e1
                split at hdx
                · rename_i tm harg
                  split at hdx
                  · rename_i hle
                    split at hdx
                    · rename_i e fr1 st3 hcode
                      split at hdx
                      · rename_i v hover hds hres
                        simp only [Option.some.injEq] at hdx
                        subst hdx
                        refine ⟨by simp, .inr ⟨fun h => Bool.noConfusion h, .func g, ⟨vs⟩, g, ⟨us ++ vs⟩, rfl, ?_, fun _ _ => trivial, ?_⟩⟩
                        · have : (⟨us⟩ ++ ⟨vs⟩ : Array Value) = ⟨us ++ vs⟩ := by apply Array.toList_inj.1; simp
                          rw [← this]
                          exact run_callFunc_body hbody _ _
                        · refine callsDIn_of_wpSIn hfn hb trivial fun c0 cs hu => ?_
                          refine code2_sound hm hT hL (by simp [recoverD, hu]) body hcode ⟨frame_of_args harg (hargs.append hcap) (bleT.1 hle), rfl⟩ hI fun a1 w1 ι1 hfr1 hp1 => ?_
                          obtain ⟨u, hrun, _⟩ := results_sound hres hfr1.tm hp1.inv
                          have hdf : a1.defers = [] := by
                            have := hfr1.ds
                            rw [hds] at this
                            exact this
                          have hc0 : (c0 :: cs) = { c0 with mode := FrameMode.returning } :: cs := by rw [← hu]
                          have hrest : LeavesInM Fence.wide n P fn tmps R r (settle .returning) w1 := leaves_sound hm hT hL ds h (hd2.mono hp1.sub) hp1.inv fun w' ι' hp' => hend w' ι' (hp1.trans hp')
                          rcases overX_cases hover with rfl | rfl
                          · exact ⟨hdf, .returning, hc0, u, hrun, hrest⟩
                          · exact ⟨hdf, .returning, hc0, u, hrun, hrest⟩
                      · cases hdx
                    · cases hdx
                  · cases hdx
                · cases hdx
              · cases hdx
            · cases hdx
          · cases hdx
        · cases hdx
    · cases h

/-- A function's call. -/
theorem enter_sound (hm : P.follows .mixedOrders = true) (hT : CallOK P T) (hL : LoopOK P T) {g : FuncId} {f : Func} {body : Code} (hf : P.funcs[g]? = some f) (hb : f.body = some body) {args : List AV} {v : AV} (h : enterX P T g f body args st = some (v, st')) {vs : List Value} (hv : Rels ι args vs) (hI : Inv P ι st w) (n : Nat) :
    CallsIn Fence.wide n P g ⟨vs⟩ w fun e w' => ∃ u, e = .returned u ∧ Out P ι st w v st' u w' := by
  unfold enterX at h
  split at h
  · rename_i tm harg
    split at h
    · rename_i hle
      split at h
      · rename_i e fr1 st1 hcode
        split at h
        · rename_i hover
          split at h
          · rename_i st2 hdef
            split at h
            · rename_i u hres
              rw [forceV_eq] at h
              simp only [Option.some.injEq, Prod.mk.injEq] at h
              obtain ⟨rfl, rfl⟩ := h
              refine callsIn_of_wp_marks hf hb trivial ?_
              refine code_sound hm hT hL (.inl ⟨rfl, rfl⟩) body hcode ⟨frame_of_args harg hv (bleT.1 hle), rfl⟩ hI fun a1 w1 ι1 hfr1 hp1 => ?_
              have hlv : LeavesInM Fence.wide n P f a1.tmps (fun e w' => ∃ u', e = .returned u' ∧ Out P ι st w u st2 u' w') a1.defers .returning w1 :=
                leaves_sound hm hT hL fr1.ds hdef hfr1.ds hp1.inv fun w' ι' hp' => by
                  obtain ⟨u', hrun, hrel⟩ := results_sound hres (hfr1.tm.mono hp'.sub) hp'.inv
                  exact ⟨u', hrun, u', rfl, ι', hrel, hp1.trans hp'⟩
              rcases overX_cases hover with rfl | rfl
              · exact hlv
              · exact hlv
            · cases h
          · cases h
        · cases h
      · cases h
    · cases h
  · cases h
end

/-! ### The tools -/
/-- What is known of calls holds. -/
def KnownOK (P : Program) (K : Known) : Prop := ∀ g args st v, K g args st = some v → ∀ ι w vs, Rels ι args vs → Inv P ι st w → OpRes P false (Out P ι st w v st) ((callFunc g ⟨vs⟩).run P w)

theorem call_sound (hm : P.follows .mixedOrders = true) {T : Tools} (hT : CallOK P T) (hL : LoopOK P T) {K : Known} (hK : KnownOK P K) {g : FuncId} {args : List AV} {st st' : St} {v : AV} (h : callX P T K g args st = some (v, st')) {ι : Ren} {w : World} {vs : List Value} (hv : Rels ι args vs) (hI : Inv P ι st w) :
    OpRes P false (Out P ι st w v st') ((callFunc g ⟨vs⟩).run P w) := by
  unfold callX at h
  split at h
  · rename_i u hk
    simp only [Option.some.injEq, Prod.mk.injEq] at h
    obtain ⟨rfl, rfl⟩ := h
    exact hK _ _ _ _ hk ι w vs hv hI
  · split at h
    · rename_i f hf hbody
      split at h
      · rename_i body hb
        rw [run_callFunc_body hbody]
        exact ⟨rfl, fun n => enter_sound hm hT hL hf hb h hv hI n⟩
      · cases h
    · cases h

theorem tools_ok (hm : P.follows .mixedOrders = true) {K : Known} (hK : KnownOK P K) : ∀ n, CallOK P (tools P K n) ∧ LoopOK P (tools P K n)
  | 0 => ⟨⟨fun g args st a st' h => by simp [tools] at h, fun l args st a st' h => by simp [tools] at h⟩, fun m c fr st e fr' st' h => by simp [tools] at h⟩
  | n + 1 => by
    obtain ⟨hT, hL⟩ := tools_ok hm hK n
    refine ⟨⟨fun g args st a st' h ι w vs hv hI => ?_, fun l args st a st' h ι w b k vs hi hv hI => ?_⟩, fun m c fr st e fr' st' h F hF k ι w a hfr hI Q hQ => ?_⟩
    · exact call_sound hm hT hL hK h hv hI
    · exact round_sound hm hT hL h hi hv hI
    · refine loopIn_of ?_
      simp only [tools] at h
      split at h
      · rename_i fr1 st1 hcode
        exact code_sound hm hT hL hF c hcode hfr hI fun a1 w1 ι1 hfr1 hp1 => hL _ _ _ _ _ _ _ h F hF k ι1 w1 a1 hfr1 hp1.inv Q fun a2 w2 ι2 hfr2 hp2 => hQ _ _ _ hfr2 (hp1.trans hp2)
      · rename_i hne
        exact code_sound hm hT hL hF c h hfr hI fun a1 w1 ι1 hfr1 hp1 => then_ne (fun e => by subst e; exact hne _ _ h) (hQ _ _ _ hfr1 hp1)

/-- A call that the executor answers, in the model. -/
theorem exec_calls (hm : P.follows .mixedOrders = true) {K : Known} (hK : KnownOK P K) {m : Nat} {g : FuncId} {args : List AV} {st st' : St} {v : AV} (h : (tools P K m).call g args st = some (v, st')) (hbody : hasBody P g = true) {ι : Ren} {w : World} {vs : List Value} (hv : Rels ι args vs) (hI : Inv P ι st w) (n : Nat) :
    CallsIn Fence.wide n P g ⟨vs⟩ w fun e w' => ∃ u, e = .returned u ∧ Out P ι st w v st' u w' := by
  have := (tools_ok hm hK m).1.call _ _ _ _ _ h ι w vs hv hI
  rw [run_callFunc_body hbody] at this
  exact this.2 n
end Go.Proofs.Bc
