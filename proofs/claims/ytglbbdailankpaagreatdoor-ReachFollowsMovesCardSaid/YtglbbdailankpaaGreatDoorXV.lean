/- The executor's calls against the model's: rounds, deferred calls, results; the tools. -/
import Derived.Test.YtglbbdailankpaaGreatDoorXU
import Derived.RecoverIn
namespace Go.Proofs.Bc
open Go
variable {P : Program}

section
variable {T : Tools} {ι : Ren} {st st' : St} {w : World} {a : Act}

/-! ### A round -/
theorem psX_spec : ∀ (ps : List Tmp) (args : List AV) (vs : List Value) {nt : Nat} {tm tm1 : Tr AV} {tmps : Array Value}, psX ps args nt tm = some tm1 → Rels ι args vs → TmRel ι tm nt tmps →
    vs.length = ps.length ∧ TmRel ι tm1 nt ((ps.zip vs).foldl (fun tmps (t, a) => tmps.setIfInBounds t a) tmps)
  | [], [], vs, nt, tm, tm1, tmps, h, hv, ht => by
    rw [Rels.nil_iff] at hv
    subst hv
    simp only [psX, Option.some.injEq] at h
    subst h
    exact ⟨rfl, ht⟩
  | [], _ :: _, vs, nt, tm, tm1, tmps, h, hv, ht => by simp [psX] at h
  | _ :: _, [], vs, nt, tm, tm1, tmps, h, hv, ht => by simp [psX] at h
  | p :: ps, x :: xs, vs, nt, tm, tm1, tmps, h, hv, ht => by
    rw [Rels.cons_iff] at hv
    obtain ⟨v, us, hxv, hxs, rfl⟩ := hv
    rw [psX] at h
    split at h
    · rename_i hlt
      split at h
      · rename_i tm2 hput
        obtain ⟨h1, h2⟩ := psX_spec ps xs us h hxs (ht.put (bltT.1 hlt) hput hxv)
        exact ⟨by simp [h1], by simpa using h2⟩
      · cases h
    · cases h

theorem beginRoundX_spec {l : Nat} (h : beginRoundX l st = some st') (hI : Inv P ι st w) {b n : Nat} (hi : ι l = some (b, n)) : ∃ w', (Instr.beginRound b).run P w = .ok () w' ∧ Post P ι st w ι st' w' := by
  unfold beginRoundX at h
  split at h
  · rename_i pend fn tm nt ps assign body defers hl
    obtain ⟨b', n', ob, q1, q2, q3, q4⟩ := hI.heap.at_ l _ hl
    rw [hi] at q1
    cases q1
    simp only [ORel] at q3
    obtain ⟨tmps, b3, k3, fn3, q5, q6, rfl⟩ := q3
    have hlt := (Array.getElem?_eq_some_iff.1 q2).1
    refine ⟨_, run_beginRound q2 rfl, Post.turn hI h hl hi _ (World.putObj_heap_same hlt) ?_ trivial (by simp) (fun k hk => World.putObj_heap_other hk) rfl rfl rfl⟩
    simp only [ORel]
    exact ⟨tmps, b3, k3, fn3, q5, q6, rfl⟩
  · cases h

theorem endRoundX_spec {l : Nat} {e : Exit} {v : AV} (h : endRoundX l e st = some (v, st')) (hI : Inv P ι st w) {b n : Nat} (hi : ι l = some (b, n)) (a : Act) : roundPost P b (fun e w'' => ∃ u, e = .returned u ∧ Rel ι v u ∧ Post P ι st w ι st' w'') e a w := by
  unfold endRoundX at h
  split at h
  · rename_i s pend fn tm nt ps assign body defers hl
    obtain ⟨b', n', ob, q1, q2, q3, q4⟩ := hI.heap.at_ l _ hl
    rw [hi] at q1
    cases q1
    simp only [ORel] at q3
    obtain ⟨tmps, b3, k3, fn3, q5, q6, rfl⟩ := q3
    have hlt := (Array.getElem?_eq_some_iff.1 q2).1
    have key : ∀ (jump : Option Code) (s' : LoopState), s' = (if jump.isNone then .ready else .done) → st.turn l (some (.loop s' jump fn tm nt ps assign body defers)) = some st' →
        ∃ u w', (Instr.endRound b jump).run P w = .ok u w' ∧ u = .bool jump.isNone ∧ Post P ι st w ι st' w' := by
      intro jump s' hs hturn
      subst hs
      refine ⟨_, _, run_endRound jump q2, rfl, Post.turn hI hturn hl hi _ (World.putObj_heap_same hlt) ?_ trivial (by simp) (fun k hk => World.putObj_heap_other hk) rfl rfl rfl⟩
      simp only [ORel]
      exact ⟨tmps, b3, k3, fn3, q5, q6, rfl⟩
    split at h
    · split at h
      · rename_i st4 hturn
        simp only [Option.some.injEq, Prod.mk.injEq] at h
        obtain ⟨rfl, rfl⟩ := h
        obtain ⟨u, w', k1, k2, k3⟩ := key none .ready rfl hturn
        exact ⟨u, w', k1, u, rfl, by rw [k2]; simp [Rel], k3⟩
      · cases h
    · split at h
      · rename_i st4 hturn
        simp only [Option.some.injEq, Prod.mk.injEq] at h
        obtain ⟨rfl, rfl⟩ := h
        obtain ⟨u, w', k1, k2, k3⟩ := key (some .ret) .done rfl hturn
        exact ⟨u, w', k1, u, rfl, by rw [k2]; simp [Rel], k3⟩
      · cases h
    · split at h
      · rename_i st4 hturn
        simp only [Option.some.injEq, Prod.mk.injEq] at h
        obtain ⟨rfl, rfl⟩ := h
        obtain ⟨u, w', k1, k2, k3⟩ := key (some (.exit _)) .done rfl hturn
        exact ⟨u, w', k1, u, rfl, by rw [k2]; simp [Rel], k3⟩
      · cases h
    · cases h
  · cases h

theorem roundPost_mono {l : Nat} {R R' : Ending → World → Prop} {e : Exit} {a : Act} {w : World} (hR : ∀ e w, R e w → R' e w) (h : roundPost P l R e a w) : roundPost P l R' e a w := by
  cases e <;> first | exact h.elim | (obtain ⟨v, w', h1, h2⟩ := h; exact ⟨v, w', h1, hR _ _ h2⟩)

theorem round_sound (hm : P.follows .mixedOrders = true) (hT : CallOK P T) (hL : LoopOK P T) {l : Nat} {args : List AV} {v : AV} (h : roundX P T l args st = some (v, st')) {b n : Nat} {vs : List Value} (hi : ι l = some (b, n)) (hv : Rels ι args vs) (hI : Inv P ι st w) :
    OpRes P false (Out P ι st w v st') ((Instr.yield b ⟨vs⟩).run P w) := by
  unfold roundX at h
  split at h
  · rename_i s pend fn tm nt ps assign body defers hl
    split at h
    · rename_i tm1 hps
      obtain ⟨b', n', ob, q1, q2, q3, q4⟩ := hI.heap.at_ l _ hl
      rw [hi] at q1
      cases q1
      simp only [ORel] at q3
      obtain ⟨tmps, b3, k3, fn3, q5, q6, rfl⟩ := q3
      obtain ⟨hlen, htm⟩ := psX_spec _ _ _ hps hv q6
      rw [run_yield q2 (by simpa using hlen)]
      refine ⟨rfl, fun m => roundIn_of_wpIn trivial ?_⟩
      unfold bodyRoundX at h
      split at h
      · rename_i fr1 st1 hassign
        split at h
        · rename_i st2 hbegin
          split at h
          · rename_i e fr3 st3 hbody
            have hF : modeF 1 (Fence.wide.inRound b) := .inr ⟨rfl, b, rfl⟩
            refine code_sound hm hT hL hF assign (Q := Exit.then _ _) hassign (ι := ι) ⟨?_, rfl⟩ hI fun a1 w1 ι1 hfr1 hp1 => ?_
            · have : (Array.foldl (fun tmps (x : Tmp × Value) => tmps.setIfInBounds x.1 x.2) tmps ((⟨ps⟩ : Array Tmp).zip ⟨vs⟩)) = ((ps.zip vs).foldl (fun tmps (t, a) => tmps.setIfInBounds t a) tmps) := by
                rw [← Array.foldl_toList]; simp
              exact this ▸ htm
            · obtain ⟨w2, hrun, hp2⟩ := beginRoundX_spec hbegin hp1.inv (hp1.sub _ _ hi)
              refine ⟨w2, hrun, code_sound hm hT hL hF body hbody (hfr1.mono hp2.sub) hp2.inv fun a3 w3 ι3 hfr3 hp3 => ?_⟩
              refine roundPost_mono ?_ (endRoundX_spec h hp3.inv (hp3.sub _ _ (hp1.sub _ _ hi)) a3)
              rintro e w4 ⟨u, he, hrel, hp4⟩
              exact ⟨u, he, ι3, hrel, ((hp1.trans hp2).trans hp3).trans hp4⟩
          · cases h
        · cases h
      · cases h
    · cases h
  · cases h

/-! ### Results -/
def resOne (tmps : Array Value) : ResultVar → Sem Value
  | .tmp t => pure (tmps.getD t undef)
  | .cell a t => do loadVar t (← asAddr (tmps.getD a undef))

theorem results_eq (fn : Func) (tmps : Array Value) : results fn tmps = (do
    let vs ← fn.results.mapM (resOne tmps)
    pure (if h : vs.size = 1 then vs[0] else .tuple vs)) := by
  unfold results
  exact congrArg (fun g : ResultVar → Sem Value => (fn.results.mapM g >>= fun vs => pure (if h : vs.size = 1 then vs[0] else .tuple vs))) (funext fun x => by cases x <;> rfl)

theorem results_run {fn : Func} {tmps : Array Value} {us : List Value} (h : (fn.results.toList.mapM (resOne tmps)).run P w = .ok us w) : (results fn tmps).run P w = .ok (if h : us.length = 1 then us[0]'(by omega) else .tuple ⟨us⟩) w := by
  rw [results_eq, Array.mapM_eq_mapM_toList]
  simp only [Sem.run_bind, Sem.run_map, h, Result.andThen, Sem.run_pure]
  rfl

theorem results_sound {f : Func} {fr : Fr} {v : AV} (h : resultsX P f fr st = some v) (hfr : TmRel ι fr.tm fr.nt a.tmps) (hI : Inv P ι st w) : ∃ u, (results f a.tmps).run P w = .ok u w ∧ Rel ι v u := by
  have one : ∀ r x, resultX P fr st r = some x → ∃ u, (resOne a.tmps r).run P w = .ok u w ∧ Rel ι x u := by
    intro r x hx
    unfold resultX at hx
    split at hx
    · rename_i t
      exact ⟨_, by simp [resOne], hfr.get _ _ hx⟩
    · rename_i a' t
      split at hx
      · rename_i l off hp
        obtain ⟨b, k, v, h1, h2, h3⟩ := loadX_spec hI hx
        have h4 := hfr.get _ _ hp
        simp only [Rel] at h4
        obtain ⟨b', k', h5, h6⟩ := h4
        rw [h1] at h5
        cases h5
        refine ⟨v, ?_, h3⟩
        simp only [resOne, h6]
        simp [asAddr, h2]
      · cases hx
  have all : ∀ (l : List ResultVar) (vs : List AV), mapX (resultX P fr st) l = some vs → ∃ us : List Value, Rels ι vs us ∧ (l.mapM (resOne a.tmps)).run P w = .ok us w := by
    intro l
    induction l with
    | nil => intro vs h; simp only [mapX, Option.some.injEq] at h; subst h; exact ⟨[], Rels.nil_iff.2 rfl, by simp⟩
    | cons r l ih =>
      intro vs h
      rw [mapX] at h
      split at h
      · rename_i x hx
        split at h
        · rename_i xs hxs
          simp only [Option.some.injEq] at h
          subst h
          obtain ⟨u, h1, h2⟩ := one r x hx
          obtain ⟨us, h3, h5⟩ := ih xs hxs
          refine ⟨u :: us, Rels.cons_iff.2 ⟨u, us, h2, h3, rfl⟩, ?_⟩
          simp only [List.mapM_cons, Sem.run_bind, h1, h5, Result.andThen, Sem.run_pure]
        · cases h
      · cases h
  unfold resultsX at h
  cases hx : mapX (resultX P fr st) f.results.toList with
  | none => rw [hx] at h; cases h
  | some vs =>
    rw [hx] at h
    obtain ⟨us, h3, h5⟩ := all _ _ hx
    match vs, us, h, h3, h5 with
    | [x], us, h, h3, h5 =>
      simp only [Option.some.injEq] at h
      subst h
      rw [Rels.cons_iff] at h3
      obtain ⟨u, us', h6, h7, rfl⟩ := h3
      rw [Rels.nil_iff] at h7
      subst h7
      refine ⟨u, ?_, h6⟩
      rw [results_run h5]
      simp
    | [], us, h, h3, h5 =>
      simp only [Option.some.injEq] at h
      subst h
      rw [Rels.nil_iff] at h3
      subst h3
      exact ⟨.tuple ⟨[]⟩, by rw [results_run h5]; simp, by simp only [Rel]; exact ⟨[], Rels.nil_iff.2 rfl, rfl⟩⟩
    | x :: y :: r, us, h, h3, h5 =>
      simp only [Option.some.injEq] at h
      subst h
      have hl := Rels.length h3
      simp only [List.length_cons] at hl
      exact ⟨.tuple ⟨us⟩, by rw [results_run h5, dif_neg (by omega)], by simp only [Rel]; exact ⟨us, h3, rfl⟩⟩
end
end Go.Proofs.Bc
