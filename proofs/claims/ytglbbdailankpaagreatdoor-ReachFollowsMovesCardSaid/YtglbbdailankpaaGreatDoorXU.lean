/- The executor's code against the model's: a plain frame, a round's frame. -/
import Derived.Test.YtglbbdailankpaaGreatDoorXT
import Derived.RangeFuncIn
import Derived.RangeFuncRecord
import Derived.Scope
namespace Go.Proofs.Bc
open Go
variable {P : Program}

/-! ### Rules of the walk -/
/-- At the head of a loop's round. -/
def LoopIn (F : Fence) (n : Nat) (P : Program) (c : Code) (Q : Exit → Act → World → Prop) (a : Act) (w : World) : Prop :=
  ∀ (b : Frame) (k : List Item) (cs : List Frame), b.roundOf = F.round → F.fn b.fn → F.room (cs.length + 1 + n) →
    ∃ e a' w', Q e a' w' ∧ ArrivesIn (Machine.fenced P F) P (lone (b.atR a (.code c :: .inLoop c :: k)) cs w) b k cs e a' w'

theorem loopIn_of {F : Fence} {n : Nat} {c : Code} {Q : Exit → Act → World → Prop} {a : Act} {w : World} (h : c.wpIn F n P (Exit.then (LoopIn F n P c Q) Q) a w) : LoopIn F n P c Q a w := by
  intro b k cs hro hb hr
  obtain ⟨e, a₁, w₁, hq, harr⟩ := h b (.inLoop c :: k) cs hro hb hr
  cases e with
  | normal =>
    obtain ⟨e₂, a₂, w₂, hq₂, harr₂⟩ := hq b k cs hro hb hr
    exact ⟨e₂, a₂, w₂, hq₂, .of_steps (StepsIn.trans harr (.one (fenced_calm hb hr rfl) stepR_inLoop)) harr₂⟩
  | exit id => exact ⟨_, a₁, w₁, hq, .pass (x := .inLoop c) rfl (fun _ _ => .inl (by simp)) harr⟩
  | goto l => exact ⟨_, a₁, w₁, hq, .pass (x := .inLoop c) rfl (fun _ _ => .inl (by simp)) harr⟩
  | ret => exact ⟨_, a₁, w₁, hq, .pass (x := .inLoop c) rfl (fun _ _ => .inl (by simp)) harr⟩
  | panic ch => exact ⟨_, a₁, w₁, hq, .pass (x := .inLoop c) rfl (fun _ _ => .inl (by simp)) harr⟩
  | outgrown => exact ⟨_, a₁, w₁, hq, .pass (x := .inLoop c) rfl (fun _ _ => .inl (by simp)) harr⟩

theorem wpIn_of_loopIn {F : Fence} {n : Nat} {c : Code} {Q : Exit → Act → World → Prop} {a : Act} {w : World} (h : LoopIn F n P c Q a w) : (Code.loop c).wpIn F n P Q a w :=
  fun b k cs hro hb hr => let ⟨e, a', w', hq, harr⟩ := h b k cs hro hb hr; ⟨e, a', w', hq, .of_steps (.one (fenced_calm hb hr rfl) stepR_loop) harr⟩

section
variable {b : Frame} {a : Act} {k : List Item} {cs : List Frame} {w : World}
theorem stepR_scope {c : Code} : step P (lone (b.atR a (.code (.scope c) :: k)) cs w) = .next (lone (b.atR a (.code c :: .inScope c :: k)) cs w) :=
  step_lone_go (by simp [stepG, stepG.exec, Frame.atR])
theorem stepR_inScope {c : Code} : step P (lone (b.atR a (.inScope c :: k)) cs w) = .next (lone (b.atR a k) cs w) :=
  step_lone_go (by simp [stepG, stepG.exec, Frame.atR])
end

theorem wpIn_scope {F : Fence} {n : Nat} {c : Code} {Q : Exit → Act → World → Prop} {a : Act} {w : World} (h : c.wpIn F n P (Exit.noGoto Q) a w) : (Code.scope c).wpIn F n P Q a w := by
  intro b k cs hro hb hr
  have h0 : (lone (b.atR a (.code (.scope c) :: k)) cs w).fenced P F := fenced_calm hb hr rfl
  obtain ⟨e, a₁, w₁, hq, harr⟩ := h b (.inScope c :: k) cs hro hb hr
  cases e with
  | normal => exact ⟨.normal, a₁, w₁, hq, .head h0 stepR_scope (StepsIn.trans harr (.one (fenced_calm hb hr rfl) stepR_inScope))⟩
  | exit id =>
    have hx : exitTo id (.inScope c :: k) = exitTo id k := by simp [exitTo]
    exact ⟨.exit id, a₁, w₁, hq, fun k' hk => .head h0 stepR_scope (harr.1 k' (by rw [hx]; exact hk)), fun hr' hk => let ⟨k₁, h1, h2⟩ := harr.2 hr' (by rw [hx]; exact hk); ⟨k₁, h1, .head h0 stepR_scope h2⟩⟩
  | goto l => exact hq.elim
  | ret => exact ⟨_, a₁, w₁, hq, .of_steps (.one h0 stepR_scope) harr⟩
  | panic ch => exact ⟨_, a₁, w₁, hq, .of_steps (.one h0 stepR_scope) harr⟩
  | outgrown => exact ⟨_, a₁, w₁, hq, .of_steps (.one h0 stepR_scope) harr⟩

/-! ### The record of a loop -/
/-- What lay at l is forgotten, and turned. -/
theorem Post.dropTurn {ι : Ren} {st st' : St} {w w' : World} {l b n : Nat} (hI : Inv P ι st w) (h : st.turn l none = some st') (hl : st.h.get l ≠ none) (hi : ι l = some (b, n))
    (hsize : w'.heap.size = w.heap.size) (hother : ∀ k, k ≠ b → w'.heap[k]? = w.heap[k]?) (hos : w'.os = w.os) (htape : w'.tape = w.tape) (hout : w'.output = w.output) : Post P ι st w ι st' w' := by
  obtain ⟨hlo, hc, hlo', hg⟩ := turn_eq h
  have hsome : ∀ {m : Nat}, st'.h.get m ≠ none → m ≠ l ∧ st.h.get m ≠ none := fun {m} hm => by
    rw [hg] at hm
    by_cases e : m = l
    · rw [if_pos e] at hm; exact absurd rfl hm
    · rw [if_neg e] at hm; exact ⟨e, hm⟩
  refine ⟨Sub.refl ι, fun _ _ => rfl, by omega, hlo', fun m hm => by rw [hg, if_neg (by omega)], ⟨⟨fun m u hm => ?_, fun m k b n j hm hk => hI.heap.inj m k b n j (hsome hm).2 (hsome hk).2⟩, fun m hm => by rw [hc]; exact hI.lt m (hsome hm).2, by rw [hlo', hc]; exact hI.lo, by rw [hlo']; exact hI.glo, hI.glob, by rw [hc]; exact hI.fresh⟩, ⟨hos, htape, hout, by omega, fun k _ hno => hother k fun e => hno l n hlo hl (e ▸ hi)⟩, fun m b n hm hgm hi => .inr ⟨m, n, hm, (hsome hgm).2, hi⟩⟩
  have hm' : st'.h.get m ≠ none := by rw [hm]; simp
  rw [hg, if_neg (hsome hm').1] at hm
  obtain ⟨b2, n2, ob2, h1, h2, h3, h4⟩ := hI.heap.at_ m u hm
  have hne : b2 ≠ b := fun eb => (hsome hm').1 (hI.heap.inj m l b n2 n (by rw [hm]; simp) hl (eb ▸ h1) hi)
  exact ⟨b2, n2, ob2, h1, (hother b2 hne).trans h2, h3, h4⟩

theorem run_callFunc_body {g : FuncId} (h : hasBody P g = true) (args : Array Value) (w : World) : (callFunc g args).run P w = .ok (.enter g args) w := by
  unfold hasBody at h
  split at h
  · rename_i f hf
    split at h
    · cases h
    · rename_i hn
      have hb : ¬ f.body = none := fun hb => by rw [hb] at h; cases h
      have hn' : ¬ f.name = "runtime.NumGoroutine" := by simpa using hn
      simp [callFunc, Sem.run_bind, hf, hn', hb, Result.andThen]
  · cases h

section
variable {T : Tools}

/-- Loops by the tools. -/
def LoopOK (P : Program) (T : Tools) : Prop := ∀ m c fr st e fr' st', T.loop m c fr st = some (e, fr', st') → ∀ F, modeF (m % 2) F → ∀ n ι w a, FrRel ι fr a → Inv P ι st w → ∀ Q : Exit → Act → World → Prop,
  (∀ a' w' ι', FrRel ι' fr' a' → Post P ι st w ι' st' w' → Q e a' w') → LoopIn F n P c Q a w

theorem modeF.m0 {mode : Nat} {F : Fence} (h : modeF mode F) : m0 mode = mode := by rcases h with ⟨rfl, _⟩ | ⟨rfl, _⟩ <;> rfl
theorem modeF.mod {mode : Nat} {F : Fence} (h : modeF mode F) (fn : Nat) : modeF ((Bc.m0 mode + 2 * fn) % 2) F := by
  rw [h.m0]
  have : (mode + 2 * fn) % 2 = mode := by rcases h with ⟨rfl, _⟩ | ⟨rfl, _⟩ <;> omega
  rw [this]
  exact h

/-- A range over a function. -/
theorem rangeFunc_sound (hT : CallOK P T) {fn : FuncId} {g : Operand} {ps : Array Tmp} {assign body : Code} {ι : Ren} {st st' : St} {w : World} {a : Act} {fr fr' : Fr} {e : Exit} {n : Nat} {Q : Exit → Act → World → Prop}
    (h : rangeFuncX P T fn (fr.eval P g) ps.toList assign body fr st = some (e, fr', st')) (hfr : FrRel ι fr a) (hI : Inv P ι st w)
    (hQ : ∀ a' w' ι', FrRel ι' fr' a' → Post P ι st w ι' st' w' → Q e a' w') : (Code.rangeFunc g ps assign body).wpIn Fence.wide n P Q a w := by
  unfold rangeFuncX at h
  split at h
  · rename_i gf first cap hg
    split at h
    · rename_i r st1 hbody hnew1
      split at h
      · rename_i l st2 hnew2
        split at h
        · rename_i as happ
          have e1 := appX_eq _ _ _ happ
          subst e1
          have hgv := eval_rel hfr.tm hI g _ hg
          simp only [Rel] at hgv
          obtain ⟨g', us, vs, hg', hus, hvs, hv⟩ := hgv
          simp only [FnRel] at hg'
          subst hg'
          refine wpIn_rangeFunc fun fn' _ => ?_
          obtain ⟨hp1, hr1⟩ := Post.new hI hnew1 (.deferred (some [])) 0 rfl trivial
          have hfr1 := hfr.mono hp1.sub
          obtain ⟨hp2, hr2⟩ := Post.new hp1.inv hnew2 (.loop { state := .ready, pending := none, fn := fn', tmps := a.tmps, params := ps, assign, body, defers := w.heap.size }) 0
            (by simp only [ORel]; exact ⟨a.tmps, w.heap.size, 0, fn', hr1, hfr1.tm, rfl⟩) trivial
          obtain ⟨w1, hw1⟩ : ∃ w1, w1 = (w.alloc (.deferred (some []))).alloc (.loop { state := .ready, pending := none, fn := fn', tmps := a.tmps, params := ps, assign, body, defers := w.heap.size }) := ⟨_, rfl⟩
          rw [← hw1] at hp2
          have hp12 := hp1.trans hp2
          have hsz : (w.alloc (.deferred (some []))).heap.size = w.heap.size + 1 := by simp
          have harg : Rels ((ι.add r w.heap.size 0).add l (w.alloc (.deferred (some []))).heap.size 0) (first ++ (.func (.yield l) [] [] :: cap)) (us ++ (.func (.yield (w.heap.size + 1)) #[] #[] :: vs)) := by
            refine (hus.mono hp12.sub).append (Rels.cons_iff.2 ⟨_, _, ?_, hvs.mono hp12.sub, rfl⟩)
            simp only [Rel]
            refine ⟨.yield (w.heap.size + 1), [], [], ?_, Rels.nil_iff.2 rfl, Rels.nil_iff.2 rfl, rfl⟩
            simp only [FnRel]
            exact ⟨w.heap.size + 1, 0, by rw [hr2, hsz], rfl⟩
          unfold rangedX at h
          split at h
          · rename_i v st3 hcall
            split at h
            · rename_i s pend fnx tmx ntx psx ax bx dx hl3
              split at h
              · rename_i st4 hbusy hturn
                have hres := hT.call _ _ _ _ _ hcall _ _ _ harg hp2.inv
                rw [run_callFunc_body hbody] at hres
                refine ⟨w.heap.size + 1, [{ target := .collected w.heap.size, args := #[] }], w1, { target := .fn (.func gf) ⟨vs⟩, args := ⟨us ++ [.func (.yield (w.heap.size + 1)) #[] #[]]⟩ }, w1, gf, ⟨us ++ (.func (.yield (w.heap.size + 1)) #[] #[] :: vs)⟩, w1, by rw [hw1]; exact run_enterLoop_outer _ _ _ _ _, ?_, fun _ _ => trivial, ?_, fun h => Bool.noConfusion h, ?_⟩
                · simp only [resolve, hv, Deferred.ofValue]; simp [Act.eval]
                · have e3 : (⟨us ++ [.func (.yield (w.heap.size + 1)) #[] #[]]⟩ ++ ⟨vs⟩ : Array Value) = ⟨us ++ (.func (.yield (w.heap.size + 1)) #[] #[] :: vs)⟩ := by
                    apply Array.toList_inj.1; simp
                  rw [← e3]
                  exact run_callFunc_body hbody _ _
                · refine (hres.2 (n - 1)).mono ?_
                  rintro e0 w3 ⟨u, rfl, ι3, hrel, hp3⟩
                  obtain ⟨b, k, ob, q1, q2, q3, q4⟩ := hp3.inv.heap.at_ l _ hl3
                  have q5 := hp3.sub _ _ hr2
                  rw [q1, hsz] at q5
                  cases q5
                  simp only [ORel] at q3
                  obtain ⟨tmps3, b3, k3, fn3, q6, q7, rfl⟩ := q3
                  have hne : s ≠ .busy := fun e => by subst e; cases hbusy
                  have hlt3 : w.heap.size + 1 < w3.heap.size := (Array.getElem?_eq_some_iff.1 q2).1
                  refine ⟨_, _, run_endLoop q2 hne, ?_⟩
                  have hp4 := Post.dropTurn (w' := w3.putObj (w.heap.size + 1) (.loop { state := .exhausted, pending := pend, fn := fn3, tmps := tmps3, params := ⟨psx⟩, assign := ax, body := bx, defers := b3 })) hp3.inv hturn (by rw [hl3]; simp) q1 (by simp) (fun k hk => World.putObj_heap_other hk) rfl rfl rfl
                  have hp := (hp12.trans hp3).trans hp4
                  have hfr' : FrRel ι3 { tm := fr.tm, nt := fr.nt, ds := .coll r :: fr.ds } { a with defers := [{ target := .collected w.heap.size, args := #[] }] ++ a.defers } :=
                    ⟨hfr.tm.mono hp.sub, _, _, ⟨w.heap.size, 0, hp3.sub _ _ (hp2.sub _ _ hr1), rfl⟩, hfr.ds.mono hp.sub, rfl⟩
                  unfold jumpX at h
                  split at h
                  · simp only [Option.some.injEq, Prod.mk.injEq] at h
                    obtain ⟨rfl, rfl, rfl⟩ := h
                    exact hQ _ _ _ hfr' hp
                  · simp only [Option.some.injEq, Prod.mk.injEq] at h
                    obtain ⟨rfl, rfl, rfl⟩ := h
                    exact wpIn_ret (hQ _ _ _ hfr' hp)
                  · simp only [Option.some.injEq, Prod.mk.injEq] at h
                    obtain ⟨rfl, rfl, rfl⟩ := h
                    exact wpIn_exit (hQ _ _ _ hfr' hp)
                  · cases h
              · cases h
            · cases h
          · cases h
        · cases h
      · cases h
    · cases h
  · cases h

theorem seqX_inv {r : Option (Exit × Fr × St)} {f : Fr → St → Option (Exit × Fr × St)} {x : Exit × Fr × St} (h : seqX r f = some x) : (∃ fr st, r = some (.normal, fr, st) ∧ f fr st = some x) ∨ (x.1 ≠ .normal ∧ r = some x) := by
  unfold seqX at h
  split at h
  · exact .inl ⟨_, _, rfl, h⟩
  · rename_i hr
    refine .inr ⟨fun e => ?_, h⟩
    obtain ⟨x1, x2, x3⟩ := x
    simp only at e
    subst e
    exact hr x2 x3 h
theorem then_ne {K : Act → World → Prop} {Q : Exit → Act → World → Prop} {e : Exit} {a : Act} {w : World} (he : e ≠ .normal) (h : Q e a w) : Exit.then K Q e a w := by
  cases e <;> first | exact absurd rfl he | exact h

/-- Code in a plain frame or in a round's. -/
theorem code_sound (hm : P.follows .mixedOrders = true) (hT : CallOK P T) (hL : LoopOK P T) {mode : Nat} {F : Fence} (hF : modeF mode F) {fn : FuncId} {n : Nat} :
    ∀ (c : Code) {ι : Ren} {st st' : St} {w : World} {a : Act} {fr fr' : Fr} {e : Exit} {Q : Exit → Act → World → Prop}, codeX P T mode fn c fr st = some (e, fr', st') → FrRel ι fr a → Inv P ι st w →
      (∀ a' w' ι', FrRel ι' fr' a' → Post P ι st w ι' st' w' → Q e a' w') → c.wpIn F n P Q a w := by
  have hnormX : ∀ {r : Option (Fr × St)} {e fr' st'}, normX r = some (e, fr', st') → e = .normal ∧ r = some (fr', st') := by
    intro r e fr' st' h
    unfold normX at h
    split at h
    · simp only [Option.some.injEq, Prod.mk.injEq] at h
      obtain ⟨rfl, rfl, rfl⟩ := h
      exact ⟨rfl, rfl⟩
    · cases h
  intro c
  induction c with
  | skip =>
    intro ι st st' w a fr fr' e Q h hfr hI hQ
    simp only [codeX, Option.some.injEq, Prod.mk.injEq] at h
    obtain ⟨rfl, rfl, rfl⟩ := h
    exact wpIn_skip (hQ _ _ _ hfr (Post.refl hI))
  | label l =>
    intro ι st st' w a fr fr' e Q h hfr hI hQ
    simp only [codeX, Option.some.injEq, Prod.mk.injEq] at h
    obtain ⟨rfl, rfl, rfl⟩ := h
    exact wpIn_label (hQ _ _ _ hfr (Post.refl hI))
  | exit id =>
    intro ι st st' w a fr fr' e Q h hfr hI hQ
    simp only [codeX, Option.some.injEq, Prod.mk.injEq] at h
    obtain ⟨rfl, rfl, rfl⟩ := h
    exact wpIn_exit (hQ _ _ _ hfr (Post.refl hI))
  | ret =>
    intro ι st st' w a fr fr' e Q h hfr hI hQ
    simp only [codeX, Option.some.injEq, Prod.mk.injEq] at h
    obtain ⟨rfl, rfl, rfl⟩ := h
    exact wpIn_ret (hQ _ _ _ hfr (Post.refl hI))
  | goto l => intro ι st st' w a fr fr' e Q h; simp [codeX] at h
  | refuse l => intro ι st st' w a fr fr' e Q h; simp [codeX] at h
  | region id ops draw =>
    intro ι st st' w a fr fr' e Q h hfr hI hQ
    cases draw with
    | false =>
      rw [codeX] at h
      obtain ⟨rfl, h'⟩ := hnormX h
      exact wpIn_region (ops_sound hT hF ops.size 0 rfl (Nat.zero_le _) (by simpa using h') hfr hI hQ)
    | true =>
      rw [codeX, hF.m0] at h
      obtain ⟨rfl, h'⟩ := hnormX h
      exact draw_sound hm hF hT h' hfr hI hQ
  | seq x y ihx ihy =>
    intro ι st st' w a fr fr' e Q h hfr hI hQ
    rw [codeX] at h
    rcases seqX_inv h with ⟨fr1, st1, h1, h2⟩ | ⟨he, h1⟩
    · exact wpIn_seq (ihx h1 hfr hI fun a1 w1 ι1 hfr1 hp1 => ihy h2 hfr1 hp1.inv fun a2 w2 ι2 hfr2 hp2 => hQ _ _ _ hfr2 (hp1.trans hp2))
    · exact wpIn_seq (ihx h1 hfr hI fun a1 w1 ι1 hfr1 hp1 => then_ne he (hQ _ _ _ hfr1 hp1))
  | cond c x y ihx ihy =>
    intro ι st st' w a fr fr' e Q h hfr hI hQ
    rw [codeX] at h
    unfold condX at h
    split at h
    · rename_i hc
      have := eval_rel hfr.tm hI c _ hc
      simp only [Rel] at this
      exact wpIn_cond_true this (ihx h hfr hI hQ)
    · rename_i hc
      have := eval_rel hfr.tm hI c _ hc
      simp only [Rel] at this
      exact wpIn_cond_false this (ihy h hfr hI hQ)
    · cases h
  | block id x ih =>
    intro ι st st' w a fr fr' e Q h hfr hI hQ
    rw [codeX, hF.m0] at h
    unfold blockX at h
    split at h
    · rename_i i fr1 st1 hx
      split at h
      · rename_i hi
        simp only [Option.some.injEq, Prod.mk.injEq] at h
        obtain ⟨rfl, rfl, rfl⟩ := h
        refine wpIn_block (ih hx hfr hI fun a1 w1 ι1 hfr1 hp1 => ?_)
        simp only [Exit.inBlock, beqT.1 hi, if_true]
        exact hQ _ _ _ hfr1 hp1
      · rename_i hi
        simp only [Option.some.injEq, Prod.mk.injEq] at h
        obtain ⟨rfl, rfl, rfl⟩ := h
        refine wpIn_block (ih hx hfr hI fun a1 w1 ι1 hfr1 hp1 => ?_)
        have hne : ¬ i = id := fun e => by subst e; rw [Nat.beq_refl] at hi; cases hi
        simp only [Exit.inBlock, hne, if_false]
        exact hQ _ _ _ hfr1 hp1
    · rename_i hne
      refine wpIn_block (ih h hfr hI fun a1 w1 ι1 hfr1 hp1 => ?_)
      have := hQ _ _ _ hfr1 hp1
      cases e with
      | exit i => exact absurd h (hne i fr' st')
      | normal => exact this
      | ret => exact this
      | goto _ => exact this
      | panic _ => exact this
      | outgrown => exact this
  | loop x ih =>
    intro ι st st' w a fr fr' e Q h hfr hI hQ
    rw [codeX] at h
    unfold loopX at h
    refine wpIn_of_loopIn (loopIn_of ?_)
    split at h
    · rename_i fr1 st1 hx
      rw [hF.m0] at hx
      exact ih hx hfr hI fun a1 w1 ι1 hfr1 hp1 => hL _ _ _ _ _ _ _ h F (hF.mod fn) n ι1 w1 a1 hfr1 hp1.inv Q fun a2 w2 ι2 hfr2 hp2 => hQ _ _ _ hfr2 (hp1.trans hp2)
    · rename_i hne
      rw [hF.m0] at h
      exact ih h hfr hI fun a1 w1 ι1 hfr1 hp1 => then_ne (fun e => by subst e; exact hne _ _ (by rw [hF.m0]; exact h)) (hQ _ _ _ hfr1 hp1)
  | scope x ih =>
    intro ι st st' w a fr fr' e Q h hfr hI hQ
    rw [codeX, hF.m0] at h
    unfold scopeX at h
    split at h
    · cases h
    · rename_i hne
      refine wpIn_scope (ih h hfr hI fun a1 w1 ι1 hfr1 hp1 => ?_)
      have := hQ _ _ _ hfr1 hp1
      cases e with
      | goto i => exact absurd h (hne i fr' st')
      | normal => exact this
      | ret => exact this
      | exit _ => exact this
      | panic _ => exact this
      | outgrown => exact this
  | rangeFunc g ps assign body iha ihb =>
    intro ι st st' w a fr fr' e Q h hfr hI hQ
    rcases hF with ⟨rfl, rfl⟩ | ⟨rfl, l, rfl⟩
    · exact rangeFunc_sound hT h hfr hI hQ
    · exact absurd h (by simp [codeX])
end
end Go.Proofs.Bc
