/- The executor's operations against the model's, one by one: iterators' steps, whole numbers. -/
import Derived.Test.YtglbbdailankpaaGreatDoorXI
namespace Go.Proofs.Bc
open Go
variable {P : Program} {ι : Ren} {st st' : St} {w : World} {a : AV} {rec : Bool} {ev : Operand → Value} {ρ : Operand → Option AV}

theorem rel_over (ι : Ren) : Rel ι (.tuple [.bool false]) (.tuple #[.bool false]) := by
  simp only [Rel]; exact ⟨[.bool false], Rels.single (by simp [Rel]), rfl⟩

theorem op_next {it : Operand} {isS : Bool} {o : Oper} (ho : o.op = .next it isS) (h : opNext (ρ it) isS st = some (.val a st')) (hρ : ∀ x ∈ o.op.operands, ∀ a, ρ x = some a → Rel ι a (ev x)) (hI : Inv P ι st w) :
    OpRes P rec (Out P ι st w a st') ((execOp ev o).run P w) := by
  unfold opNext at h
  rw [ho] at hρ
  split at h
  · rename_i v hx
    have h1 := pairX_inv h
    have hx' := hρ it (by simp [Op.operands]) _ hx
    unfold nextX at h1
    split at h1
    · rename_i r
      simp only [Rel] at hx'
      obtain ⟨b, n, hi, hv⟩ := hx'
      split at h1
      · rename_i s pos hl
        obtain ⟨b2, n2, ob, hi2, hb, hob, _⟩ := hI.heap.at_ _ _ hl
        rw [hi] at hi2
        cases hi2
        simp only [ORel] at hob
        subst hob
        have hget := run_getObj_at (P := P) hb (by simp)
        split at h1
        · rename_i hlt
          have hlt' : pos < s.size := bltT.1 hlt
          simp only [forceN_eq] at h1
          split at h1
          · rename_i st2 hturn
            simp only [Option.some.injEq, Prod.mk.injEq] at h1
            obtain ⟨rfl, rfl⟩ := h1
            obtain ⟨w', hset, hb', hon⟩ := run_setObj_at' (P := P) (o' := .stringIter s (pos + (Utf8.decode s pos).2)) hb (by simp)
            refine OpRes.value (v := .tuple #[.bool true, .int .i64 (pos : Int), .int .i32 ((Utf8.decode s pos).1 : Int)]) (w := w') ?_ ⟨ι, ?_, Post.turn hI hturn hl hi _ hb' rfl trivial hon.size hon.other hon.os hon.tape hon.output⟩
            · simp [execOp, ho, Instr.next, hv, hget, hlt', hset, goInt]
            · simp only [Rel]
              exact ⟨[_, _, _], Rels.cons_iff.2 ⟨_, _, by simp [Rel], Rels.cons_iff.2 ⟨_, _, by simp [Rel], Rels.single (by simp [Rel]), rfl⟩, rfl⟩, rfl⟩
          · cases h1
        · rename_i hlt
          have hlt' : ¬ pos < s.size := Nat.not_lt.2 (bltF.1 hlt)
          simp only [Option.some.injEq, Prod.mk.injEq] at h1
          obtain ⟨rfl, rfl⟩ := h1
          exact OpRes.value (v := .tuple #[.bool false]) (w := w) (by simp [execOp, ho, Instr.next, hv, hget, hlt']) (Out.same hI (rel_over ι))
      · rename_i hl
        obtain ⟨b2, n2, ob, hi2, hb, hob, _⟩ := hI.heap.at_ _ _ hl
        rw [hi] at hi2
        cases hi2
        simp only [ORel] at hob
        subst hob
        have hget := run_getObj_at (P := P) hb (by simp)
        simp only [Option.some.injEq, Prod.mk.injEq] at h1
        obtain ⟨rfl, rfl⟩ := h1
        exact OpRes.value (v := .tuple #[.bool false]) (w := w) (by simp [execOp, ho, Instr.next, hv, hget]) (Out.same hI (rel_over ι))
      · rename_i m since seen last hl
        obtain ⟨b2, n2, ob, hi2, hb, hob, _⟩ := hI.heap.at_ _ _ hl
        rw [hi] at hi2
        cases hi2
        obtain ⟨bm, km, him, rfl⟩ := hob
        have hget := run_getObj_at (P := P) hb (by simp)
        split at h1
        · rename_i clock hlm
          obtain ⟨b3, n3, ob3, hi3, hb3, ⟨ms, rfl, her⟩, _⟩ := hI.heap.at_ _ _ hlm
          rw [him] at hi3
          cases hi3
          simp only [ERels] at her
          subst her
          have hget3 := run_getObj_at (P := P) hb3 (by simp)
          simp only [Option.some.injEq, Prod.mk.injEq] at h1
          obtain ⟨rfl, rfl⟩ := h1
          refine OpRes.value (v := .tuple #[.bool false]) (w := w) ?_ (Out.same hI (rel_over ι))
          simp [execOp, ho, Instr.next, hv, hget, hget3, Question.forced]
        · rename_i k v born clock hlm
          obtain ⟨b3, n3, ob3, hi3, hb3, ⟨ms, rfl, her⟩, _⟩ := hI.heap.at_ _ _ hlm
          rw [him] at hi3
          cases hi3
          obtain ⟨me, r2, ⟨hk, hvv, hborn⟩, her, rfl⟩ := her
          simp only [ERels] at her
          subst her
          simp only at hk hvv hborn
          have hget3 := run_getObj_at (P := P) hb3 (by simp)
          split at h1
          · split at h1
            · rename_i hlt
              have hlt' : born < since := bltT.1 hlt
              split at h1
              · rename_i st2 hturn
                simp only [Option.some.injEq, Prod.mk.injEq] at h1
                obtain ⟨rfl, rfl⟩ := h1
                obtain ⟨w', hset, hb', hon⟩ := run_setObj_at' (P := P) (o' := .mapIter (some bm) since #[born] clock) hb (by simp)
                refine OpRes.value (v := .tuple #[.bool true, me.key, me.val]) (w := w') ?_ ⟨ι, ?_, Post.turn hI hturn hl hi _ hb' ⟨bm, km, him, rfl⟩ trivial hon.size hon.other hon.os hon.tape hon.output⟩
                · simp [execOp, ho, Instr.next, hv, hget, hget3, hborn, hlt', Nat.not_le.2 hlt', Question.forced, hset]
                · simp only [Rel]
                  exact ⟨[_, _, _], Rels.cons_iff.2 ⟨_, _, by simp [Rel], Rels.cons_iff.2 ⟨_, _, hk, Rels.single hvv, rfl⟩, rfl⟩, rfl⟩
              · cases h1
            · cases h1
          · rename_i bb _
            split at h1
            · rename_i e1 e2
              have e1' : bb = born := beqT.1 e1
              have e2' : born < last := bltT.1 e2
              subst e1'
              simp only [Option.some.injEq, Prod.mk.injEq] at h1
              obtain ⟨rfl, rfl⟩ := h1
              refine OpRes.value (v := .tuple #[.bool false]) (w := w) ?_ (Out.same hI (rel_over ι))
              simp [execOp, ho, Instr.next, hv, hget, hget3, hborn, Question.forced, Nat.not_le.2 e2']
            · cases h1
          · cases h1
        · cases h1
      · cases h1
    · cases h1
  · cases h

theorem op_entry {it : Operand} {o : Oper} (ho : o.op = .entry it) (h : opEntry (ρ it) st = some (.val a st')) (hρ : ∀ x ∈ o.op.operands, ∀ a, ρ x = some a → Rel ι a (ev x)) (hI : Inv P ι st w) :
    OpRes P rec (Out P ι st w a st') ((execOp ev o).run P w) := by
  unfold opEntry at h
  rw [ho] at hρ
  split at h
  · rename_i v hx
    obtain ⟨h1, rfl⟩ := valX_inv h
    have hx' := hρ it (by simp [Op.operands]) _ hx
    unfold entryX at h1
    split at h1
    · rename_i r
      simp only [Rel] at hx'
      obtain ⟨b, n, hi, hv⟩ := hx'
      split at h1
      · rename_i m since bb stepped hl
        obtain ⟨b2, n2, ob, hi2, hb, hob, _⟩ := hI.heap.at_ _ _ hl
        rw [hi] at hi2
        cases hi2
        obtain ⟨bm, km, him, rfl⟩ := hob
        have hget := run_getObj_at (P := P) hb (by simp)
        split at h1
        · rename_i k v born clock hlm
          obtain ⟨b3, n3, ob3, hi3, hb3, ⟨ms, rfl, her⟩, _⟩ := hI.heap.at_ _ _ hlm
          rw [him] at hi3
          cases hi3
          obtain ⟨me, r2, ⟨hk, hvv, hborn⟩, her, rfl⟩ := her
          simp only [ERels] at her
          subst her
          simp only at hk hvv hborn
          have hget3 := run_getObj_at (P := P) hb3 (by simp)
          split at h1
          · rename_i e1 e2
            have e1' : bb = born := beqT.1 e1
            have e2' : clock = stepped := beqT.1 e2
            simp only [Option.some.injEq] at h1
            subst h1 e1' e2'
            refine OpRes.value (v := .tuple #[me.key, me.val]) (w := w) ?_ (Out.same hI ?_)
            · simp [execOp, ho, Instr.entry, hv, hget, hget3, hborn]
            · simp only [Rel]
              exact ⟨[_, _], Rels.cons_iff.2 ⟨_, _, hk, Rels.single hvv, rfl⟩, rfl⟩
          · cases h1
        · cases h1
      · cases h1
    · cases h1
  · cases h

/-! ### Whole numbers -/
theorem klim_pow (k : IntKind) : (klim k : Int) = if k.signed then 2 ^ (k.bits - 1) else 2 ^ k.bits := by cases k <;> decide
theorem kmod_pow (k : IntKind) : (kmod k : Int) = 2 ^ k.bits := by cases k <;> decide
theorem ksig_eq (k : IntKind) : ksig k = k.signed := by cases k <;> rfl
theorem wrap_fit {k : IntKind} {n : Nat} (h : n < klim k) : k.wrap (n : Int) = n := by
  have h2 : klim k ≤ kmod k := by cases k <;> decide
  have hm : (n : Int) % (2 ^ k.bits : Int) = n := by rw [← kmod_pow]; exact Int.emod_eq_of_lt (by omega) (by omega)
  unfold IntKind.wrap
  simp only [hm]
  cases hs : k.signed with
  | false => simp
  | true =>
    have hl := klim_pow k
    rw [hs, if_pos rfl] at hl
    rw [← hl]
    have : ¬ ((klim k : Int) ≤ (n : Int)) := by omega
    simp [this]
theorem wrap_unsigned {k : IntKind} (hs : ksig k = false) (n : Nat) : k.wrap (n : Int) = ((n % kmod k : Nat) : Int) := by
  rw [ksig_eq] at hs
  unfold IntKind.wrap
  simp only [hs, Bool.false_and, Bool.false_eq_true, if_false]
  rw [← kmod_pow]; rfl
theorem fitX_spec {k : IntKind} {n : Nat} (h : fitX k n = some a) (ι : Ren) : Rel ι a (.int k (k.wrap (n : Int))) := by
  unfold fitX at h
  split at h
  · rename_i hlt
    simp only [Option.some.injEq] at h
    subst h
    rw [wrap_fit (bltT.1 hlt)]
    simp [Rel]
  · split at h
    · cases h
    · rename_i hs
      simp only [Option.some.injEq] at h
      subst h
      rw [wrap_unsigned hs]
      simp only [Rel]
      rfl
end Go.Proofs.Bc
