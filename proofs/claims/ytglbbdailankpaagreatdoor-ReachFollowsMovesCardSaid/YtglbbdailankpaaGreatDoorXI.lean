/- The executor's operations against the model's, one by one: maps, iterators. -/
import Derived.Test.YtglbbdailankpaaGreatDoorXH
namespace Go.Proofs.Bc
open Go
variable {P : Program} {ι : Ren} {st st' : St} {w : World} {a : AV} {rec : Bool} {ev : Operand → Value} {ρ : Operand → Option AV}

theorem run_getObj_at {r : Nat} {o : Obj} (h : w.heap[r]? = some o) (hc : ∀ c t f, o ≠ .cells c t f) : (getObj r).run P w = .ok o w := by
  cases o <;> simp_all [getObj, Sem.run]
theorem run_setObj_at' {r : Nat} {o o' : Obj} (h : w.heap[r]? = some o) (hc : ∀ c t f, o ≠ .cells c t f) :
    ∃ w', (setObj r o').run P w = .ok () w' ∧ w'.heap[r]? = some o' ∧ OnlyAt r w w' := by
  have hlt := (Array.getElem?_eq_some_iff.1 h).1
  refine ⟨{ w with heap := w.heap.setIfInBounds r o' }, by cases o <;> simp_all [setObj, Sem.run], by simp [hlt], by simp, fun k hk => ?_, rfl, rfl, rfl⟩
  simp only
  rw [Array.getElem?_setIfInBounds_ne (Ne.symm hk)]

theorem keyEq_now {d : TypeDesc} {k e : AV} {b : Bool} (h : keyEq d k e = some b) {k' e' : Value} (h1 : Rel ι k k') (h2 : Rel ι e e') : Instr.sameNow d k' e' = some b := by
  unfold keyEq at h
  split at h
  · rename_i q kk x jj y
    split at h
    · rename_i hk
      simp only [Option.some.injEq] at h
      simp only [Rel] at h1 h2
      subst h1 h2 h
      have := of_decide_eq_true hk
      subst this
      simp only [Instr.sameNow, if_true, Option.some.injEq]
      rw [Bool.eq_iff_iff]
      simp
    · cases h
  · rename_i x y
    simp only [Option.some.injEq] at h
    simp only [Rel] at h1 h2
    subst h1 h2 h
    rfl
  · cases h

def FoundRel (ι : Ren) : Option (Nat × AV) → Option (Nat × Value) → Prop
  | none, r => r = none
  | some x, r => ∃ v, Rel ι x.2 v ∧ r = some (x.1, v)

theorem findX_now {d : TypeDesc} {k : AV} {k' : Value} (hk : Rel ι k k') : ∀ (es : List (AV × AV × Nat)) (ms : List MapEntry) (i : Nat) (r : Option (Nat × AV)), findX d k es i = some r → ERels ι es ms →
    ∃ r', Instr.findNow d k' ms i = some r' ∧ FoundRel ι r r'
  | [], ms, i, r, h, hr => by
    simp only [findX, Option.some.injEq] at h
    simp only [ERels] at hr
    subst h hr
    exact ⟨none, rfl, rfl⟩
  | e :: es, ms, i, r, h, hr => by
    obtain ⟨m, rest, ⟨h1, h2, h3⟩, h4, rfl⟩ := hr
    rw [findX] at h
    split at h
    · rename_i hq
      simp only [Option.some.injEq] at h
      subst h
      have := keyEq_now hq hk h1
      exact ⟨some (i, m.val), by simp [Instr.findNow, this], _, h2, rfl⟩
    · rename_i hq
      have := keyEq_now hq hk h1
      obtain ⟨r', hf, hrel⟩ := findX_now hk es rest (i + 1) r h h4
      exact ⟨r', by simp [Instr.findNow, this, hf], hrel⟩
    · cases h

theorem keyDesc_under {t : TypeId} {d : TypeDesc} (h : keyDesc P t = some d) : P.underlying t = some d ∧ (∀ ms, d ≠ .interface ms) ∧ (∀ n e, d ≠ .array n e) ∧ (∀ fs, d ≠ .struct fs) := by
  unfold keyDesc at h
  split at h <;> simp_all
  all_goals subst h; simp

theorem run_checkKey {t : TypeId} {d : TypeDesc} (h : keyDesc P t = some d) (b : Bool) (n : Nat) (v : Value) (w : World) : (Instr.checkKey b (n + 1) t v).run P w = .ok () w := by
  obtain ⟨hu, h1, h2, h3⟩ := keyDesc_under h
  cases d <;> first
    | (exact absurd rfl (h1 _))
    | (exact absurd rfl (h2 _ _))
    | (exact absurd rfl (h3 _))
    | (simp [Instr.checkKey, run_underlying hu w])

theorem run_findKey {t : TypeId} {d : TypeDesc} (h : keyDesc P t = some d) {k' : Value} {ms : List MapEntry} {r' : Option (Nat × Value)} (hf : Instr.findNow d k' ms 0 = some r') (w : World) : (Instr.findKey t k' ms).run P w = .ok r' w := by
  obtain ⟨hu, _⟩ := keyDesc_under h
  simp [Instr.findKey, run_underlying hu w, hf]

theorem ERels.length : ∀ {es : List (AV × AV × Nat)} {ms : List MapEntry}, ERels ι es ms → ms.length = es.length
  | [], ms, h => by simp only [ERels] at h; simp [h]
  | _ :: es, ms, ⟨_, r, _, h, e⟩ => by subst e; simp [ERels.length h]
theorem ERels.snoc {e : AV × AV × Nat} {m : MapEntry} (he : ERel ι e m) : ∀ {es : List (AV × AV × Nat)} {ms : List MapEntry}, ERels ι es ms → ERels ι (es ++ [e]) (ms ++ [m])
  | [], ms, h => by simp only [ERels] at h; subst h; exact ⟨m, [], he, rfl, rfl⟩
  | _ :: es, ms, ⟨x, r, h1, h, e2⟩ => by subst e2; exact ⟨x, r ++ [m], h1, ERels.snoc he h, rfl⟩

theorem mapsAt_spec {t : TypeId} {d : TypeDesc} {e : TypeId} (h : mapsAt P t = some (d, e)) : ∃ k, P.underlying t = some (.map k e) ∧ keyDesc P k = some d := by
  unfold mapsAt at h
  split at h
  · rename_i k e' hu
    split at h
    · rename_i d' hd
      simp only [Option.some.injEq, Prod.mk.injEq] at h
      obtain ⟨rfl, rfl⟩ := h
      exact ⟨k, hu, hd⟩
    · cases h
  · cases h

theorem looked_rel {ok there : Bool} {v : AV} {u : Value} (h : Rel ι v u) : Rel ι (lookedX ok v there) (if ok then .tuple #[u, .bool there] else u) := by
  cases ok
  · simpa [lookedX] using h
  · simp only [lookedX, Rel, if_true]
    exact ⟨[u, .bool there], Rels.cons_iff.2 ⟨_, _, h, Rels.single (by simp [Rel]), rfl⟩, rfl⟩

theorem lookupX_spec (hI : Inv P ι st w) {t : TypeId} {m k : AV} {ok : Bool} (h : lookupX P t m k ok st = some a) {m' k' : Value} (hm : Rel ι m m') (hk : Rel ι k k') :
    ∃ v, (Instr.lookup t m' k' ok).run P w = .ok v w ∧ Rel ι a v := by
  unfold lookupX at h
  split at h
  · rename_i d e es hat hes
    obtain ⟨kt, hu, hd⟩ := mapsAt_spec hat
    obtain ⟨ms, hms, her⟩ : ∃ ms : List MapEntry, (m' = .map none ∧ ms = [] ∨ ∃ b clock, m' = .map (some b) ∧ w.heap[b]? = some (.map ⟨ms⟩ clock)) ∧ ERels ι es ms := by
      unfold entriesX at hes
      split at hes
      · simp only [Option.some.injEq] at hes
        simp only [Rel] at hm
        subst hm hes
        exact ⟨[], .inl ⟨rfl, rfl⟩, rfl⟩
      · rename_i l
        split at hes
        · rename_i es' clock hl
          simp only [Option.some.injEq] at hes
          subst hes
          simp only [Rel] at hm
          obtain ⟨b, n, hi, rfl⟩ := hm
          obtain ⟨b2, n2, ob, hi2, hb, ⟨ms, rfl, her⟩, _⟩ := hI.heap.at_ _ _ hl
          rw [hi] at hi2
          cases hi2
          exact ⟨ms, .inr ⟨b, clock, rfl, hb⟩, her⟩
        · cases hes
      · cases hes
    split at h
    · rename_i i v hf
      simp only [Option.some.injEq] at h
      subst h
      obtain ⟨r', hn, hrel⟩ := findX_now hk _ _ _ _ hf her
      obtain ⟨u, hu2, rfl⟩ := hrel
      refine ⟨_, ?_, looked_rel (ok := ok) (there := true) hu2⟩
      rcases hms with ⟨rfl, rfl⟩ | ⟨b, clock, rfl, hb⟩
      · simp [Instr.lookup, run_underlying hu w, run_checkKey hd, run_findKey hd hn]
      · simp [Instr.lookup, run_underlying hu w, run_getObj_at (P := P) hb (by simp), run_checkKey hd, run_findKey hd hn]
    · rename_i hf
      split at h
      · rename_i z hz
        simp only [Option.some.injEq] at h
        subst h
        obtain ⟨r', hn, hrel⟩ := findX_now hk _ _ _ _ hf her
        simp only [FoundRel] at hrel
        subst hrel
        obtain ⟨i, zv, _, _, hzrun, hzrel⟩ := run_zeroX hz ι w
        refine ⟨_, ?_, looked_rel (ok := ok) (there := false) hzrel⟩
        rcases hms with ⟨rfl, rfl⟩ | ⟨b, clock, rfl, hb⟩
        · simp [Instr.lookup, run_underlying hu w, run_checkKey hd, run_findKey hd hn, hzrun]
        · simp [Instr.lookup, run_underlying hu w, run_getObj_at (P := P) hb (by simp), run_checkKey hd, run_findKey hd hn, hzrun]
      · cases h
    · cases h
  · cases h

theorem op_lookup {t : TypeId} {x k : Operand} {ok : Bool} {o : Oper} (ho : o.op = .lookup t x k ok) (h : opLookup P t (ρ x) (ρ k) ok st = some (.val a st')) (hρ : ∀ x ∈ o.op.operands, ∀ a, ρ x = some a → Rel ι a (ev x)) (hI : Inv P ι st w) :
    OpRes P rec (Out P ι st w a st') ((execOp ev o).run P w) := by
  unfold opLookup at h
  rw [ho] at hρ
  split at h
  · rename_i m kk hx hk
    obtain ⟨h1, rfl⟩ := valX_inv h
    obtain ⟨v, hrun, hrel⟩ := lookupX_spec hI h1 (hρ x (by simp [Op.operands]) _ hx) (hρ k (by simp [Op.operands]) _ hk)
    refine OpRes.value (v := v) (w := w) ?_ (Out.same hI hrel)
    simp [execOp, ho, hrun]
  · cases h

theorem op_update {t : TypeId} {x k y : Operand} {o : Oper} (ho : o.op = .mapUpdate t x k y) (h : opUpdate P t (ρ x) (ρ k) (ρ y) st = some (.val a st')) (hρ : ∀ x ∈ o.op.operands, ∀ a, ρ x = some a → Rel ι a (ev x)) (hI : Inv P ι st w) :
    OpRes P rec (Out P ι st w a st') ((execOp ev o).run P w) := by
  unfold opUpdate at h
  rw [ho] at hρ
  split at h
  · rename_i m kk vv hx hk hy
    obtain ⟨h1, rfl⟩ := stX_inv h
    have hx' := hρ x (by simp [Op.operands]) _ hx
    have hk' := hρ k (by simp [Op.operands]) _ hk
    have hy' := hρ y (by simp [Op.operands]) _ hy
    unfold updateX at h1
    split at h1
    · rename_i d e l hat
      obtain ⟨kt, hu, hd⟩ := mapsAt_spec hat
      split at h1
      · rename_i es clock hl
        split at h1
        · rename_i es' hf happ
          have e1 := appX_eq _ _ _ happ
          subst e1
          simp only [Rel] at hx'
          obtain ⟨b, n, hi, hv⟩ := hx'
          obtain ⟨b2, n2, ob, hi2, hb, ⟨ms, rfl, her⟩, _⟩ := hI.heap.at_ _ _ hl
          rw [hi] at hi2
          cases hi2
          obtain ⟨r', hn, hrel⟩ := findX_now hk' _ _ _ _ hf her
          simp only [FoundRel] at hrel
          subst hrel
          obtain ⟨w', hset, hb', hon⟩ := run_setObj_at' (P := P) (o' := .map ⟨ms ++ [{ key := ev k, val := ev y, born := clock }]⟩ (clock + 1)) hb (by simp)
          refine OpRes.skip (w := w') ?_ ⟨ι, rel_undef ι, Post.turn hI h1 hl hi _ hb' ⟨_, rfl, ERels.snoc ⟨hk', hy', rfl⟩ her⟩ trivial hon.size hon.other hon.os hon.tape hon.output⟩
          simp only [execOp, ho, hv, Instr.mapUpdate, Sem.run_bind, run_underlying hu w, Result.andThen_ok, run_getObj_at (P := P) hb (by simp), run_checkKey hd, run_findKey hd hn]
          have hpush : (⟨ms⟩ : Array MapEntry).push { key := ev k, val := ev y, born := clock } = ⟨ms ++ [{ key := ev k, val := ev y, born := clock }]⟩ := by simp
          rw [hpush]
          simp [hset]
        · cases h1
      · cases h1
    · cases h1
  · cases h

theorem op_range {t : TypeId} {x : Operand} {o : Oper} (ho : o.op = .range t x) (h : opRange P t (ρ x) st = some (.val a st')) (hρ : ∀ x ∈ o.op.operands, ∀ a, ρ x = some a → Rel ι a (ev x)) (hI : Inv P ι st w) :
    OpRes P rec (Out P ι st w a st') ((execOp ev o).run P w) := by
  unfold opRange at h
  rw [ho] at hρ
  split at h
  · rename_i v hx
    have h1 := pairX_inv h
    have hx' := hρ x (by simp [Op.operands]) _ hx
    unfold rangeX at h1
    split at h1
    · rename_i ao hao
      split at h1
      · rename_i l st2 hnew
        simp only [Option.some.injEq, Prod.mk.injEq] at h1
        obtain ⟨rfl, rfl⟩ := h1
        obtain ⟨ob, hrun, hor, hnc⟩ : ∃ ob : Obj, (execOp ev o).run P w = .ok (.value (.pointer (some ⟨w.heap.size, 0, none⟩))) (w.alloc ob) ∧ ORel ι 0 ao ob ∧ unfrozen ob := by
          split at hao
          · rename_i s hu
            simp only [Option.some.injEq] at hao
            subst hao
            simp only [Rel] at hx'
            exact ⟨_, by simp [execOp, ho, Instr.range, run_underlying hu w, hx'], rfl, trivial⟩
          · rename_i _ _ hu
            simp only [Option.some.injEq] at hao
            subst hao
            simp only [Rel] at hx'
            exact ⟨_, by simp [execOp, ho, Instr.range, run_underlying hu w, hx'], rfl, trivial⟩
          · rename_i _ _ lm hu
            split at hao
            · rename_i es clock hl
              simp only [Option.some.injEq] at hao
              subst hao
              simp only [Rel] at hx'
              obtain ⟨b, n, hi, hv⟩ := hx'
              obtain ⟨b2, n2, ob, hi2, hb, ⟨ms, rfl, her⟩, _⟩ := hI.heap.at_ _ _ hl
              rw [hi] at hi2
              cases hi2
              exact ⟨.mapIter (some b) clock #[] clock, by simp [execOp, ho, Instr.range, run_underlying hu w, hv, run_getObj_at (P := P) hb (by simp)], ⟨b, n, hi, rfl⟩, trivial⟩
            · cases hao
          · cases hao
        obtain ⟨hp, hi⟩ := Post.new hI hnew ob 0 hor hnc
        exact OpRes.value hrun ⟨_, by simp only [Rel]; exact ⟨_, _, hi, rfl⟩, hp⟩
      · cases h1
    · cases h1
  · cases h
end Go.Proofs.Bc
