/- The executor's operations against the model's, one by one: make, slices, len. -/
import Derived.Test.YtglbbdailankpaaGreatDoorXG
namespace Go.Proofs.Bc
open Go
variable {P : Program} {ι : Ren} {st st' : St} {w : World} {a : AV} {rec : Bool} {ev : Operand → Value} {ρ : Operand → Option AV}

theorem op_makeSlice {t : TypeId} {x y : Operand} {o : Oper} (ho : o.op = .makeSlice t x y) (h : opMakeSlice P t (ρ x) (ρ y) st = some (.val a st')) (hρ : ∀ x ∈ o.op.operands, ∀ a, ρ x = some a → Rel ι a (ev x)) (hI : Inv P ι st w) :
    OpRes P rec (Out P ι st w a st') ((execOp ev o).run P w) := by
  unfold opMakeSlice at h
  rw [ho] at hρ
  split at h
  · rename_i n m e hx hy hu
    split at h
    · rename_i i z hi hnm hz
      split at h
      · rename_i cs hb hm hn hrep
        obtain ⟨l, h1, rfl⟩ := rowResX_inv h
        obtain ⟨i', zv, hi', hzv, hzrun, hrel⟩ := run_zeroX hz ι w
        rw [hi] at hi'
        cases hi'
        have hx' := hρ x (by simp [Op.operands]) _ hx
        have hy' := hρ y (by simp [Op.operands]) _ hy
        simp only [Rel] at hx' hy'
        have e1 := repX_eq _ _ _ hrep
        subst e1
        have hb' : i.bytes ≤ 10000 := bleT.1 hb
        have hm' : m ≤ 1000000 := bleT.1 hm
        have hnm' : n ≤ m := bleT.1 hnm
        have hzl : z.cells.length = i.size := beqT.1 hn
        have hzs : zv.cells.size = i.size := by rw [← Array.length_toList, hrel.cells.length]; exact hzl
        obtain ⟨ι', hp, hι⟩ := newRowX_spec hI h1 (hrel.cells.reps m) (0, 0) [] row_unfrozen
        rw [List.append_nil] at hp hι
        have hmul : (i.bytes : Int) * (m : Int) ≤ 281474976710656 := by
          have : i.bytes * m ≤ 10000 * 1000000 := Nat.mul_le_mul hb' hm'
          have h2 : ((i.bytes * m : Nat) : Int) ≤ ((10000 * 1000000 : Nat) : Int) := by exact_mod_cast this
          rw [Int.natCast_mul] at h2
          omega
        have hrun := run_make (P := P) w t e i zv hu hi hzv .i64 .i64 (n : Int) (m : Int) (by omega) (by omega) hmul (by omega)
        rw [made_reps zv.cells m _ (by rw [hzs]; simp)] at hrun
        refine OpRes.value (v := .slice (some ⟨w.heap.size, 0, none⟩) n m) (w := w.alloc (.cells ⟨reps m zv.cells.toList⟩ e)) ?_ ⟨ι', ?_, hp⟩
        · rw [show (Int.ofNat n) = (n : Int) from rfl] at hx'
          rw [show (Int.ofNat m) = (m : Int) from rfl] at hy'
          simp [execOp, ho, hx', hy', hrun]
        · simp only [Rel]
          refine ⟨_, _, m, hι, hnm', by simp, ?_, rfl⟩
          rw [reps_length, Array.length_toList, hzs]; omega
      · cases h
    · cases h
  · cases h

/-! ### Slice expressions -/
def OptRel (ι : Ren) : Option AV → Option Value → Prop
  | none, v => v = none
  | some a, v => ∃ u, Rel ι a u ∧ v = some u
theorem optX_rel {x : Option Operand} {v : Option AV} (h : optX ρ x = some v) (hρ : ∀ y, x = some y → ∀ a, ρ y = some a → Rel ι a (ev y)) : OptRel ι v (x.map ev) := by
  cases x with
  | none => simp only [optX, Option.some.injEq] at h; subst h; rfl
  | some y =>
    simp only [optX] at h
    split at h
    · rename_i u hu
      simp only [Option.some.injEq] at h
      subst h
      exact ⟨_, hρ y rfl u hu, rfl⟩
    · cases h

theorem natOf_rel {v : AV} {n : Nat} (h : natOf v = some n) {u : Value} (hr : Rel ι v u) : ∃ k, u = .int k (n : Int) := by
  unfold natOf at h
  split at h
  · rename_i k m
    simp only [Option.some.injEq] at h
    subst h
    simp only [Rel] at hr
    exact ⟨k, hr⟩
  · cases h

theorem run_bound {v : AV} {n y : Nat} (h : natOf v = some n) {u : Value} (hr : Rel ι v u) (hle : n ≤ y) (code : BoundsCode) (w : World) : (Instr.sliceBound u y code).run P w = .ok n w := by
  obtain ⟨k, rfl⟩ := natOf_rel h hr
  rw [run_sliceBound w k (n : Int) y code (by omega) (by omega)]
  rfl

theorem boundsX_spec {len cap : Nat} {lo hi mx : Option AV} {l h : Nat} {m : Option Nat} (hb : boundsX len cap lo hi mx = some (l, h, m)) {lo' hi' mx' : Option Value} (h1 : OptRel ι lo lo') (h2 : OptRel ι hi hi') (h3 : OptRel ι mx mx')
    (isSlice : Bool) {cap' : Nat} (hcap : cap ≤ cap') (hlen : len ≤ cap) (w : World) :
    (Instr.sliceBounds isSlice len cap' lo' hi' mx').run P w = .ok (l, h, m.getD cap') w ∧ l ≤ h ∧ h ≤ m.getD cap ∧ m.getD cap ≤ cap ∧ (mx = none → m = none) ∧ (mx ≠ none → m ≠ none) := by
  unfold boundsX at hb
  cases mx with
  | none =>
    simp only [OptRel] at h3
    subst h3
    simp only at hb
    cases hi with
    | none =>
      simp only [OptRel] at h2
      subst h2
      simp only at hb
      cases lo with
      | none =>
        simp only [OptRel] at h1
        subst h1
        simp only [Option.some.injEq, Prod.mk.injEq] at hb
        obtain ⟨rfl, rfl, rfl⟩ := hb
        refine ⟨by simp [Instr.sliceBounds], Nat.zero_le _, by simpa using hlen, by simp, by simp, by simp⟩
      | some v =>
        obtain ⟨u, hu, rfl⟩ := h1
        simp only at hb
        cases en : natOf v with
        | none => simp [en] at hb
        | some n =>
          simp only [en] at hb
          cases eb : Nat.ble n len with
          | false => simp [eb] at hb
          | true =>
            simp only [eb, Option.some.injEq, Prod.mk.injEq] at hb
            obtain ⟨rfl, rfl, rfl⟩ := hb
            have hle := bleT.1 eb
            refine ⟨?_, hle, by simpa using hlen, by simp, by simp, by simp⟩
            simp [Instr.sliceBounds, run_bound en hu hle]
    | some vh =>
      obtain ⟨uh, huh, rfl⟩ := h2
      simp only at hb
      cases enh : natOf vh with
      | none => simp [enh] at hb
      | some nh =>
        simp only [enh] at hb
        cases ebh : Nat.ble nh cap with
        | false => simp [ebh] at hb
        | true =>
          simp only [ebh] at hb
          have hleh : nh ≤ cap := bleT.1 ebh
          cases lo with
          | none =>
            simp only [OptRel] at h1
            subst h1
            simp only [Option.some.injEq, Prod.mk.injEq] at hb
            obtain ⟨rfl, rfl, rfl⟩ := hb
            refine ⟨?_, Nat.zero_le _, by simpa using hleh, by simp, by simp, by simp⟩
            simp [Instr.sliceBounds, run_bound enh huh (Nat.le_trans hleh hcap)]
          | some v =>
            obtain ⟨u, hu, rfl⟩ := h1
            simp only at hb
            cases en : natOf v with
            | none => simp [en] at hb
            | some n =>
              simp only [en] at hb
              cases eb : Nat.ble n nh with
              | false => simp [eb] at hb
              | true =>
                simp only [eb, Option.some.injEq, Prod.mk.injEq] at hb
                obtain ⟨rfl, rfl, rfl⟩ := hb
                have hle := bleT.1 eb
                refine ⟨?_, hle, by simpa using hleh, by simp, by simp, by simp⟩
                simp [Instr.sliceBounds, run_bound enh huh (Nat.le_trans hleh hcap), run_bound en hu hle]
  | some vm =>
    obtain ⟨um, hum, rfl⟩ := h3
    simp only at hb
    cases enm : natOf vm with
    | none => simp [enm] at hb
    | some nm =>
      simp only [enm] at hb
      cases ebm : Nat.ble nm cap with
      | false => simp [ebm] at hb
      | true =>
        simp only [ebm] at hb
        have hlem : nm ≤ cap := bleT.1 ebm
        cases hi with
        | none => simp at hb
        | some vh =>
          obtain ⟨uh, huh, rfl⟩ := h2
          simp only at hb
          cases enh : natOf vh with
          | none => simp [enh] at hb
          | some nh =>
            simp only [enh] at hb
            cases ebh : Nat.ble nh nm with
            | false => simp [ebh] at hb
            | true =>
              simp only [ebh] at hb
              have hleh : nh ≤ nm := bleT.1 ebh
              cases lo with
              | none =>
                simp only [OptRel] at h1
                subst h1
                simp only [Option.some.injEq, Prod.mk.injEq] at hb
                obtain ⟨rfl, rfl, rfl⟩ := hb
                refine ⟨?_, Nat.zero_le _, by simpa using hleh, by simpa using hlem, by simp, by simp⟩
                simp [Instr.sliceBounds, run_bound enm hum (Nat.le_trans hlem hcap), run_bound enh huh hleh]
              | some v =>
                obtain ⟨u, hu, rfl⟩ := h1
                simp only at hb
                cases en : natOf v with
                | none => simp [en] at hb
                | some n =>
                  simp only [en] at hb
                  cases eb : Nat.ble n nh with
                  | false => simp [eb] at hb
                  | true =>
                    simp only [eb, Option.some.injEq, Prod.mk.injEq] at hb
                    obtain ⟨rfl, rfl, rfl⟩ := hb
                    have hle := bleT.1 eb
                    refine ⟨?_, hle, by simpa using hleh, by simpa using hlem, by simp, by simp⟩
                    simp [Instr.sliceBounds, run_bound enm hum (Nat.le_trans hlem hcap), run_bound enh huh hleh, run_bound en hu hle]

theorem sliceX_spec (hI : Inv P ι st w) {t : TypeId} {x : AV} {lo hi mx : Option AV} (h : sliceX P t x st lo hi mx = some a) {v : Value} (hx : Rel ι x v) {lo' hi' mx' : Option Value} (h1 : OptRel ι lo lo') (h2 : OptRel ι hi hi') (h3 : OptRel ι mx mx') :
    ∃ u, (Instr.sliceAt t v lo' hi' mx').run P w = .ok u w ∧ Rel ι a u := by
  unfold sliceX at h
  split at h
  · rename_i n e l off hu
    split at h
    · rename_i s hs
      split at h
      · rename_i a0 h0 m hb
        simp only at h
        split at h
        · rename_i cs t' hl
          split at h
          · rename_i hle
            simp only [Option.some.injEq] at h
            subst h
            obtain ⟨hrun, k1, k2, k3, _, _⟩ := boundsX_spec (P := P) hb h1 h2 h3 false (Nat.le_refl n) (Nat.le_refl n) w
            simp only [Rel] at hx
            obtain ⟨b, k, hi', rfl⟩ := hx
            obtain ⟨b2, k2', ob, hi2, hb2, hob, _⟩ := hI.heap.at_ _ _ hl
            rw [hi'] at hi2
            cases hi2
            obtain ⟨c, fr, rfl, hk, hcl, _⟩ := hob
            have hle' : off + n * s ≤ cs.length := bleT.1 hle
            refine ⟨.slice (some (if m.getD n = a0 then ⟨b, off, none⟩ else (⟨b, off, none⟩ : Addr).add (a0 * s))) (h0 - a0) (m.getD n - a0), ?_, ?_⟩
            · simp [Instr.sliceAt, run_underlying hu w, Instr.sureAddr, hrun, run_sizeX hs w]
            · simp only [Rel]
              refine ⟨b, k, m.getD n - a0, hi', by omega, fun k hk => by simpa using hk, ?_, ?_⟩
              · have hcase : (m.getD n - a0) * s + a0 * s ≤ n * s := by rw [← Nat.add_mul]; exact Nat.mul_le_mul_right _ (by omega)
                split <;> omega
              · rw [addr_add]
                by_cases e : m.getD n = a0
                · rw [if_pos e, beqT.2 e]
                · rw [if_neg e, beqF.2 e]
          · cases h
        · cases h
      · cases h
    · cases h
  · rename_i e l off len es cap hu
    simp only [Rel] at hx
    obtain ⟨b, k, c, hιl, hc1, hc2, hc3, rfl⟩ := hx
    split at h
    · rename_i s hs
      split at h
      · rename_i hse
        have hse' : s = es := beqT.1 hse
        subst hse'
        split at h
        · rename_i c0
          have hcc : c = c0 := hc2 c0 rfl
          subst hcc
          split at h
          · rename_i a0 h0 m hb
            simp only [Option.some.injEq] at h
            subst h
            obtain ⟨hrun, k1, k2, k3, _, _⟩ := boundsX_spec (P := P) hb h1 h2 h3 true (Nat.le_refl c) hc1 w
            refine ⟨.slice (some (if m.getD c = a0 then ⟨b, off, none⟩ else (⟨b, off, none⟩ : Addr).add (a0 * s))) (h0 - a0) (m.getD c - a0), ?_, ?_⟩
            · simp only [Instr.sliceAt, Instr.slice, Sem.run_bind, run_underlying hu w, Result.andThen_ok, hrun, run_sizeX hs w, Sem.run_pure]
              split <;> rfl
            · simp only [Rel]
              refine ⟨b, k, m.getD c - a0, hιl, by omega, fun k hk => by simpa using hk, ?_, ?_⟩
              · have hcase : (m.getD c - a0) * s + a0 * s ≤ c * s := by rw [← Nat.add_mul]; exact Nat.mul_le_mul_right _ (by omega)
                split <;> omega
              · rw [addr_add]
                by_cases e : m.getD c = a0
                · rw [if_pos e, beqT.2 e]
                · rw [if_neg e, beqF.2 e]
          · cases h
        · split at h
          · rename_i a0 h0 c' hb
            simp only [Option.some.injEq] at h
            subst h
            obtain ⟨hrun, k1, k2, k3, _, _⟩ := boundsX_spec (P := P) hb h1 h2 h3 true hc1 (Nat.le_refl len) w
            simp only [Option.getD_some] at hrun k2 k3
            refine ⟨.slice (some (if c' = a0 then ⟨b, off, none⟩ else (⟨b, off, none⟩ : Addr).add (a0 * s))) (h0 - a0) (c' - a0), ?_, ?_⟩
            · simp only [Instr.sliceAt, Instr.slice, Sem.run_bind, run_underlying hu w, Result.andThen_ok, hrun, run_sizeX hs w, Sem.run_pure]
              split <;> rfl
            · simp only [Rel]
              refine ⟨b, k, c' - a0, hιl, by omega, fun k hk => by simpa using hk, ?_, ?_⟩
              · have hcase : (c' - a0) * s + a0 * s ≤ c * s := by rw [← Nat.add_mul]; exact Nat.mul_le_mul_right _ (by omega)
                split <;> omega
              · rw [addr_add]
                by_cases e : c' = a0
                · rw [if_pos e, beqT.2 e]
                · rw [if_neg e, beqF.2 e]
          · rename_i a0 h0 hb
            obtain ⟨hrun, k1, k2, k3, _, _⟩ := boundsX_spec (P := P) hb h1 h2 h3 true hc1 (Nat.le_refl len) w
            simp only [Option.getD_none] at hrun k2 k3
            have hrun' : (Instr.sliceAt t (.slice (some ⟨b, off, none⟩) len c) lo' hi' mx').run P w = .ok (.slice (some (if c = a0 then ⟨b, off, none⟩ else (⟨b, off, none⟩ : Addr).add (a0 * s))) (h0 - a0) (c - a0)) w := by
              simp only [Instr.sliceAt, Instr.slice, Sem.run_bind, run_underlying hu w, Result.andThen_ok, hrun, run_sizeX hs w, Sem.run_pure]
              split <;> rfl
            refine ⟨_, hrun', ?_⟩
            split at h
            · rename_i ha0
              simp only [Option.some.injEq] at h
              subst h
              have ha0' : a0 = 0 := beqT.1 ha0
              subst ha0'
              simp only [Rel]
              refine ⟨b, k, c, hιl, by omega, by simp, hc3, ?_⟩
              rw [addr_add]; simp
            · split at h
              · rename_i hlt
                simp only [Option.some.injEq] at h
                subst h
                have hlt' : a0 < len := bltT.1 hlt
                simp only [Rel]
                refine ⟨b, k, c - a0, hιl, by omega, by simp, ?_, ?_⟩
                · have hcase : (c - a0) * s + a0 * s ≤ c * s := by rw [← Nat.add_mul]; exact Nat.mul_le_mul_right _ (by omega)
                  omega
                · rw [addr_add, if_neg (by omega)]
              · rename_i hlt
                simp only [Option.some.injEq] at h
                subst h
                have hlt' : len ≤ a0 := bltF.1 hlt
                simp only [Rel]
                refine ⟨if c = a0 then ⟨b, off, none⟩ else (⟨b, off, none⟩ : Addr).add (a0 * s), c - a0, ?_⟩
                rw [show h0 - a0 = 0 by omega]
          · cases h
      · cases h
    · cases h
  · cases h
/-! ### Asked of the model itself -/
theorem purely_run {o : Oper} (h : purely P o ρ = some a) (hev : execOp (stand ρ) o = execOp ev o) (ι : Ren) (w : World) : ∃ v, (execOp ev o).run P w = .ok (.value v) w ∧ Rel ι a v := by
  unfold purely at h
  rw [hev] at h
  split at h
  · rename_i v hv
    exact ⟨v, pureX_run _ _ hv w, of_rel ι _ _ _ h⟩
  · cases h

/-- The value that stands for an operand without addresses. -/
theorem hasVal_eq {x : Operand} (h : hasVal ρ x = true) (hρ : ∀ a, ρ x = some a → Rel ι a (ev x)) :
    stand ρ x = ev x := by
  unfold hasVal at h
  unfold stand
  cases e : ρ x with
  | none => simp [e] at h
  | some a =>
    simp only [e] at h ⊢
    cases e2 : a.val with
    | none => simp [e2] at h
    | some v => exact (val_rel a v (ev x) e2 (hρ a e)).symm

theorem purely_op {o : Oper} (h : valX (purely P o ρ) st = some (.val a st')) (hev : execOp (stand ρ) o = execOp ev o) (hI : Inv P ι st w) : OpRes P rec (Out P ι st w a st') ((execOp ev o).run P w) := by
  obtain ⟨h1, rfl⟩ := valX_inv h
  obtain ⟨v, hr, hrel⟩ := purely_run h1 hev ι w
  exact OpRes.value hr (Out.same hI hrel)

theorem op_pure1 {o : Oper} {x : Operand} (h : opPure1 P o ρ x st = some (.val a st')) (hx : ∀ a, ρ x = some a → Rel ι a (ev x)) (hev : ∀ f g : Operand → Value, f x = g x → execOp f o = execOp g o) (hI : Inv P ι st w) :
    OpRes P rec (Out P ι st w a st') ((execOp ev o).run P w) := by
  unfold opPure1 at h
  split at h
  · rename_i hv
    exact purely_op h (hev _ _ (hasVal_eq hv hx)) hI
  · cases h
theorem op_pure2 {o : Oper} {x y : Operand} (h : opPure2 P o ρ x y st = some (.val a st')) (hx : ∀ a, ρ x = some a → Rel ι a (ev x)) (hy : ∀ a, ρ y = some a → Rel ι a (ev y))
    (hev : ∀ f g : Operand → Value, f x = g x → f y = g y → execOp f o = execOp g o) (hI : Inv P ι st w) :
    OpRes P rec (Out P ι st w a st') ((execOp ev o).run P w) := by
  unfold opPure2 at h
  split at h
  · rename_i hv hv'
    exact purely_op h (hev _ _ (hasVal_eq hv hx) (hasVal_eq hv' hy)) hI
  · cases h
theorem allVal_eq : ∀ {xs : List Operand}, allVal ρ xs = true → (∀ x ∈ xs, ∀ a, ρ x = some a → Rel ι a (ev x)) → xs.map (stand ρ) = xs.map ev
  | [], _, _ => rfl
  | x :: xs, h, hρ => by
    unfold allVal at h
    split at h
    · rename_i hv
      rw [List.map_cons, List.map_cons, hasVal_eq hv (hρ x (by simp)), allVal_eq h (fun y hy => hρ y (by simp [hy]))]
    · cases h
end Go.Proofs.Bc
