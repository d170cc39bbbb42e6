/- The executor's operations against the model's, one by one: conversions, len, slices. -/
import Derived.Test.YtglbbdailankpaaGreatDoorXK
import Derived.Laws.BytesString
namespace Go.Proofs.Bc
open Go
variable {P : Program} {ι : Ren} {st st' : St} {w : World} {a : AV} {rec : Bool} {ev : Operand → Value} {ρ : Operand → Option AV}

/-- Where an old block serves anew: l is forgotten, its block bears another label. -/
theorem Post.reuse {st1 : St} {w' : World} {l l' b n : Nat} {o o' : AObj} (hI : Inv P ι st w) (hl : st.h.get l = some o) (hi : ι l = some (b, n)) (h1 : st.turn l none = some st1) (h2 : st1.new o' = some (l', st'))
    (ob' : Obj) (hb : w'.heap[b]? = some ob') (ho : ORel ι n o' ob') (hf : unfrozen ob') (hon : OnlyAt b w w') :
    Post P ι st w (ι.add l' b n) st' w' ∧ (ι.add l' b n) l' = some (b, n) := by
  obtain ⟨hlo, hc1, hlo1, hg1⟩ := turn_eq h1
  obtain ⟨rfl, hc2, hlo2, hg2⟩ := new_eq h2
  have hln : st.h.get l ≠ none := by rw [hl]; simp
  have hlc : l < st.c := hI.lt l hln
  have hno : ι st1.c = none := hI.fresh _ (by omega)
  have hsub := Ren.add_sub hno b n
  have hget : ∀ j, st'.h.get j = if j = st1.c then some o' else if j = l then none else st.h.get j := fun j => by rw [hg2, hg1]
  have hold : ∀ {m : Nat}, m ≠ st1.c → st'.h.get m ≠ none → m ≠ l ∧ st.h.get m ≠ none := fun {m} hm hg => by
    rw [hget, if_neg hm] at hg
    by_cases e : m = l
    · rw [if_pos e] at hg; exact absurd rfl hg
    · rw [if_neg e] at hg; exact ⟨e, hg⟩
  refine ⟨⟨hsub, fun m hm => Ren.add_ne (by omega), by omega, by omega, fun m hm => ?_, ⟨⟨fun m u hm => ?_, fun m k b2 n2 j hm hk him hik => ?_⟩, fun m hm => ?_, by have := hI.lo; omega, by have := hI.glo; omega, fun g hg => ?_, fun m hm => ?_⟩, ⟨hon.os, hon.tape, hon.output, by rw [hon.size]; exact Nat.le_refl _, fun k _ hk => hon.other k fun e => hk l n hlo hln (e ▸ hi)⟩, fun m b2 n2 hm hg him => ?_⟩, Ren.add_same _ _ _ _⟩
  · rw [hget, if_neg (by have := hI.lo; omega), if_neg (by omega)]
  · by_cases e : m = st1.c
    · subst e
      rw [hget, if_pos rfl] at hm
      cases hm
      exact ⟨b, n, ob', Ren.add_same _ _ _ _, hb, ho.mono hsub, fun _ => hf⟩
    · have hne := (hold e (by rw [hm]; simp)).1
      rw [hget, if_neg e, if_neg hne] at hm
      obtain ⟨b2, n2, ob2, k1, k2, k3, k4⟩ := hI.heap.at_ m u hm
      have hbb : b2 ≠ b := fun eb => hne (hI.heap.inj m l b n2 n (by rw [hm]; simp) hln (eb ▸ k1) hi)
      exact ⟨b2, n2, ob2, hsub _ _ k1, (hon.other b2 hbb).trans k2, k3.mono hsub, k4⟩
  · by_cases em : m = st1.c
    · by_cases ek : k = st1.c
      · rw [em, ek]
      · obtain ⟨k1, k2⟩ := hold ek hk
        rw [em, Ren.add_same] at him
        cases him
        rw [Ren.add_ne ek] at hik
        exact absurd (hI.heap.inj k l b j n k2 hln hik hi) k1
    · obtain ⟨m1, m2⟩ := hold em hm
      rw [Ren.add_ne em] at him
      by_cases ek : k = st1.c
      · rw [ek, Ren.add_same] at hik
        cases hik
        exact absurd (hI.heap.inj m l b n2 n m2 hln him hi) m1
      · obtain ⟨k1, k2⟩ := hold ek hk
        rw [Ren.add_ne ek] at hik
        exact hI.heap.inj m k b2 n2 j m2 k2 him hik
  · by_cases e : m = st1.c
    · omega
    · have := hI.lt m (hold e hm).2; omega
  · obtain ⟨k, hk⟩ := hI.glob g hg
    exact ⟨k, hsub _ _ hk⟩
  · rw [Ren.add_ne (by omega)]
    exact hI.fresh m (by omega)
  · by_cases e : m = st1.c
    · subst e
      rw [Ren.add_same] at him
      cases him
      exact .inr ⟨l, n, hlo, hln, hi⟩
    · rw [Ren.add_ne e] at him
      exact .inr ⟨m, n2, hm, (hold e hg).2, him⟩

theorem Inv.drew (hI : Inv P ι st w) : Inv P ι st w.drew := hI.alike rfl
theorem Post.drew (hI : Inv P ι st w) : Post P ι st w ι st w.drew := Post.alike hI ⟨rfl, rfl, rfl, rfl⟩

theorem op_slice {t : TypeId} {x : Operand} {lo hi mx : Option Operand} {o : Oper} (ho : o.op = .slice t x lo hi mx) (h : opSlice P o ρ t x lo hi mx st = some (.val a st')) (hρ : ∀ x ∈ o.op.operands, ∀ a, ρ x = some a → Rel ι a (ev x)) (hI : Inv P ι st w) :
    OpRes P rec (Out P ι st w a st') ((execOp ev o).run P w) := by
  rw [ho] at hρ
  have hx : ∀ a, ρ x = some a → Rel ι a (ev x) := hρ x (by simp [Op.operands])
  have hl : ∀ y, lo = some y → ∀ a, ρ y = some a → Rel ι a (ev y) := fun y hy => hρ y (by simp [Op.operands, hy])
  have hh : ∀ y, hi = some y → ∀ a, ρ y = some a → Rel ι a (ev y) := fun y hy => hρ y (by simp [Op.operands, hy])
  have hm : ∀ y, mx = some y → ∀ a, ρ y = some a → Rel ι a (ev y) := fun y hy => hρ y (by simp [Op.operands, hy])
  unfold opSlice at h
  split at h
  · rename_i s hs
    have hxv : stand ρ x = ev x := hasVal_eq (by unfold hasVal; rw [hs]; rfl) hx
    split at h
    · rename_i el eh em
      refine purely_op h ?_ hI
      have hopt : ∀ (y : Option Operand), optVal ρ y = true → (∀ z, y = some z → ∀ a, ρ z = some a → Rel ι a (ev z)) → y.map (stand ρ) = y.map ev := fun y hy hr => by
        cases y with
        | none => rfl
        | some z => simp only [Option.map_some]; rw [hasVal_eq hy (hr z rfl)]
      simp only [execOp, ho, hxv, hopt lo el hl, hopt hi eh hh, hopt mx em hm]
    · cases h
  · rename_i v hv
    split at h
    · rename_i l' h' m' el eh em
      obtain ⟨h1, rfl⟩ := valX_inv h
      obtain ⟨u, hrun, hrel⟩ := sliceX_spec hI h1 (hx _ hv) (optX_rel el hl) (optX_rel eh hh) (optX_rel em hm)
      refine OpRes.value (v := u) (w := w) ?_ (Out.same hI hrel)
      simp [execOp, ho, hrun]
    · cases h
  · cases h

theorem lenX_run {x : AV} {n : Nat} (h : lenX x = some n) {u : Value} (hx : Rel ι x u) (w : World) : (Builtin.lenOf u).run P w = .ok n w := by
  unfold lenX at h
  split at h
  · simp only [Option.some.injEq] at h
    simp only [Rel] at hx
    obtain ⟨_, _, _, _, _, _, _, rfl⟩ := hx
    subst h; rfl
  · simp only [Option.some.injEq] at h
    simp only [Rel] at hx
    subst hx h; rfl
  · simp only [Option.some.injEq] at h
    simp only [Rel] at hx
    obtain ⟨_, _, rfl⟩ := hx
    subst h; rfl
  · simp only [Option.some.injEq] at h
    simp only [Rel] at hx
    subst hx h; rfl
  · cases h

theorem op_len {x : Operand} {t : TypeId} {o : Oper} {c : Call} (ho : o.op = .call c) (hc : c.callee = .builtin .len) (ha : c.args.toList = [x]) (ht : c.argTypes.toList = [t]) (h : opLen P o ρ x t st = some (.val a st'))
    (hρ : ∀ x ∈ o.op.operands, ∀ a, ρ x = some a → Rel ι a (ev x)) (hI : Inv P ι st w) :
    OpRes P rec (Out P ι st w a st') ((execOp ev o).run P w) := by
  obtain ⟨callee, args, argTypes⟩ := c
  obtain ⟨args⟩ := args
  obtain ⟨argTypes⟩ := argTypes
  simp only at hc ha ht
  subst hc ha ht
  rw [ho] at hρ
  have hx : ∀ a, ρ x = some a → Rel ι a (ev x) := hρ x (by simp [Op.operands, Call.operands])
  have hexec : ∀ f : Operand → Value, execOp f o = (do pure (.value (← Builtin.len_ #[t] o.type #[f x]))) := fun f => by
    simp [execOp, ho, resolve, invoke, builtin]
  unfold opLen at h
  split at h
  · rename_i l off n es cap e hxv hu
    simp only [forceN_eq, Option.some.injEq, ORes.val.injEq] at h
    obtain ⟨rfl, rfl⟩ := h
    have hx' := hx _ hxv
    simp only [Rel] at hx'
    obtain ⟨b, m, c, _, _, _, _, hv⟩ := hx'
    refine OpRes.value (v := .int .i64 (n : Int)) (w := w) ?_ (Out.same hI (by simp only [Rel]; rfl))
    rw [hexec]
    simp [Builtin.len_, run_underlying hu w, hv, goInt]
  · rename_i e hxv hu
    simp only [Option.some.injEq, ORes.val.injEq] at h
    obtain ⟨rfl, rfl⟩ := h
    have hx' := hx _ hxv
    simp only [Rel] at hx'
    obtain ⟨b, c, hv⟩ := hx'
    refine OpRes.value (v := .int .i64 0) (w := w) ?_ (Out.same hI (by simp only [Rel]; rfl))
    rw [hexec]
    simp [Builtin.len_, run_underlying hu w, hv, goInt]
  · rename_i l k e hxv hu
    split at h
    · rename_i es clock hl
      simp only [Option.some.injEq, ORes.val.injEq] at h
      obtain ⟨rfl, rfl⟩ := h
      have hx' := hx _ hxv
      simp only [Rel] at hx'
      obtain ⟨b, n, hi, hv⟩ := hx'
      obtain ⟨b2, n2, ob, hi2, hb, ⟨ms, rfl, her⟩, _⟩ := hI.heap.at_ _ _ hl
      rw [hi] at hi2
      cases hi2
      refine OpRes.value (v := .int .i64 (es.length : Int)) (w := w) ?_ (Out.same hI (by simp only [Rel]; rfl))
      rw [hexec]
      simp [Builtin.len_, run_underlying hu w, hv, goInt, run_getObj_at (P := P) hb (by simp), ← her.length]
    · cases h
  · exact op_pure1 h hx (fun f g e => by rw [hexec, hexec, e]) hI

theorem op_minmax {o : Oper} {c : Call} {b : Builtin} (hb : b = .min ∨ b = .max) (ho : o.op = .call c) (hc : c.callee = .builtin b) (h : opPureL P o ρ c.args.toList st = some (.val a st'))
    (hρ : ∀ x ∈ o.op.operands, ∀ a, ρ x = some a → Rel ι a (ev x)) (hI : Inv P ι st w) :
    OpRes P rec (Out P ι st w a st') ((execOp ev o).run P w) := by
  rw [ho] at hρ
  unfold opPureL at h
  split at h
  · rename_i hall
    have hargs := allVal_eq hall (fun x hx => hρ x (by simp [Op.operands, Call.operands]; right; simpa using hx))
    refine purely_op h ?_ hI
    have hmap : c.args.map (stand ρ) = c.args.map ev := by
      apply Array.toList_inj.1; simpa using hargs
    rcases hb with rfl | rfl <;> simp [execOp, ho, resolve, hc, invoke, builtin, hmap]
  · cases h
end Go.Proofs.Bc
