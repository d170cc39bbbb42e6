/- The executor's values, frames and heaps against the model's. -/
import Derived.Test.YtglbbdailankpaaGreatDoorXE
import Derived.RangeFuncLeaves
import Derived.RecoverIn
import Derived.Laws.Rows
import Derived.Laws.AppendOwn
import Derived.Below
namespace Go.Proofs.Bc
open Go

/-! ### Trees and lists -/
theorem beqT {a b : Nat} : Nat.beq a b = true ↔ a = b := ⟨Nat.eq_of_beq_eq_true, fun e => e ▸ Nat.beq_refl a⟩
theorem beqF {a b : Nat} : Nat.beq a b = false ↔ a ≠ b := by
  rw [← Bool.not_eq_true, beqT]
theorem bleT {a b : Nat} : Nat.ble a b = true ↔ a ≤ b := by rw [Nat.ble_eq]
theorem bleF {a b : Nat} : Nat.ble a b = false ↔ b < a := by rw [← Bool.not_eq_true, bleT]; omega
theorem bltT {a b : Nat} : Nat.blt a b = true ↔ a < b := by unfold Nat.blt; rw [bleT]; omega
theorem bltF {a b : Nat} : Nat.blt a b = false ↔ b ≤ a := by rw [← Bool.not_eq_true, bltT]; omega
theorem Tr.get_put {α : Type} : ∀ (n : Nat) (t : Tr α) (k : Nat) (v : Option α) (t' : Tr α), Tr.put n t k v = some t' → ∀ j, t'.get j = if j = k then v else t.get j
  | 0, t, k, v, t', h => by cases h
  | n + 1, t, k, v, t', h => by
    intro j
    have hroot : ∀ (u : Option α) (l r : Tr α) (i : Nat), (Tr.node u l r).get i = if i = 0 then u else if i % 2 = 1 then l.get (i / 2) else r.get (i / 2 - 1) := by
      intro u l r i
      rw [Tr.get]
      by_cases h0 : i = 0
      · subst h0; simp
      · by_cases h1 : i % 2 = 1
        · have e1 : Nat.beq (Nat.mod i 2) 1 = true := beqT.2 h1
          rw [beqF.2 h0, e1]; simp only [h0, h1, if_true, if_false]; rfl
        · have e1 : Nat.beq (Nat.mod i 2) 1 = false := beqF.2 h1
          rw [beqF.2 h0, e1]; simp only [h0, h1, if_false]; rfl
    have hget : ∀ i, t.get i = if i = 0 then t.rt else if i % 2 = 1 then t.lt.get (i / 2) else t.gt.get (i / 2 - 1) := by
      intro i
      cases t with
      | nil =>
        have : ∀ i, (Tr.nil : Tr α).get i = none := fun i => by rw [Tr.get]
        simp [this, Tr.rt, Tr.lt, Tr.gt]
      | node u l r => rw [hroot]; rfl
    rw [Tr.put] at h
    cases hk0 : Nat.beq k 0 with
    | true =>
      rw [hk0] at h
      simp only [Option.some.injEq] at h
      subst h
      have hk : k = 0 := Nat.eq_of_beq_eq_true hk0
      subst hk
      rw [hroot, hget]
      by_cases hj : j = 0 <;> simp [hj]
    | false =>
      have hk : k ≠ 0 := fun e => by subst e; cases hk0
      rw [hk0] at h
      cases hk1 : Nat.beq (Nat.mod k 2) 1 with
      | true =>
        rw [hk1] at h
        have hk1' : k % 2 = 1 := Nat.eq_of_beq_eq_true hk1
        cases hp : Tr.put n t.lt (Nat.div k 2) v with
        | none => rw [hp] at h; cases h
        | some l' =>
          rw [hp] at h
          simp only [mkL, Option.some.injEq] at h
          subst h
          have ih := Tr.get_put n _ _ _ _ hp
          rw [hroot, hget]
          by_cases hj : j = 0
          · subst hj; simp [Ne.symm hk]
          · by_cases hj1 : j % 2 = 1
            · simp only [hj, hj1, if_true, if_false]
              rw [ih]
              have hd : Nat.div k 2 = k / 2 := rfl
              rw [hd]
              by_cases hjk : j = k
              · subst hjk; simp
              · have : ¬ j / 2 = k / 2 := by omega
                simp [this, hjk]
            · have : ¬ j = k := by intro e; subst e; exact hj1 hk1'
              simp [hj, hj1, this]
      | false =>
        rw [hk1] at h
        have hk1' : ¬ k % 2 = 1 := fun e => by
          have : Nat.mod k 2 = 1 := e
          rw [this] at hk1; cases hk1
        cases hp : Tr.put n t.gt (Nat.sub (Nat.div k 2) 1) v with
        | none => rw [hp] at h; cases h
        | some r' =>
          rw [hp] at h
          simp only [mkR, Option.some.injEq] at h
          subst h
          have ih := Tr.get_put n _ _ _ _ hp
          rw [hroot, hget]
          by_cases hj : j = 0
          · subst hj; simp [Ne.symm hk]
          · by_cases hj1 : j % 2 = 1
            · have : ¬ j = k := by intro e; subst e; exact hk1' hj1
              simp [hj, hj1, this]
            · simp only [hj, hj1, if_false]
              rw [ih]
              have hd : Nat.sub (Nat.div k 2) 1 = k / 2 - 1 := rfl
              rw [hd]
              by_cases hjk : j = k
              · subst hjk; simp
              · have : ¬ j / 2 - 1 = k / 2 - 1 := by omega
                simp [this, hjk]

theorem Tr.get_nil {α : Type} (i : Nat) : (Tr.nil : Tr α).get i = none := by rw [Tr.get]

theorem takeX_eq {α : Type} : ∀ (n : Nat) (xs ys : List α), takeX n xs = some ys → ys = xs.take n ∧ n ≤ xs.length
  | 0, xs, ys, h => by simp only [takeX, Option.some.injEq] at h; subst h; simp
  | n + 1, [], ys, h => by cases h
  | n + 1, x :: xs, ys, h => by
    rw [takeX] at h
    cases e : takeX n xs with
    | none => rw [e] at h; cases h
    | some r =>
      rw [e] at h
      simp only [Option.some.injEq] at h
      subst h
      obtain ⟨h1, h2⟩ := takeX_eq n xs r e
      simp [h1, h2]
theorem dropX_eq {α : Type} : ∀ (n : Nat) (xs ys : List α), dropX n xs = some ys → ys = xs.drop n ∧ n ≤ xs.length
  | 0, xs, ys, h => by simp only [dropX, Option.some.injEq] at h; subst h; simp
  | n + 1, [], ys, h => by cases h
  | n + 1, x :: xs, ys, h => by
    rw [dropX] at h
    obtain ⟨h1, h2⟩ := dropX_eq n xs ys h
    simp [h1, h2]
theorem nthX_eq {α : Type} : ∀ (n : Nat) (xs : List α) (x : α), nthX n xs = some x → xs[n]? = some x
  | n, [], x, h => by cases n <;> cases h
  | 0, y :: ys, x, h => by simpa [nthX] using h
  | n + 1, y :: ys, x, h => by rw [nthX] at h; simpa using nthX_eq n ys x h
theorem appX_eq {α : Type} : ∀ (xs ys zs : List α), appX xs ys = some zs → zs = xs ++ ys
  | [], ys, zs, h => by simp only [appX, Option.some.injEq] at h; simp [h]
  | x :: xs, ys, zs, h => by
    rw [appX] at h
    cases e : appX xs ys with
    | none => rw [e] at h; cases h
    | some r =>
      rw [e] at h
      simp only [Option.some.injEq] at h
      rw [← h, appX_eq xs ys r e]; rfl
/-- vs laid over xs from n on. -/
def lay {α : Type} (n : Nat) (vs xs : List α) : List α := xs.take n ++ vs ++ xs.drop (n + vs.length)
theorem layX_eq {α : Type} : ∀ (n : Nat) (vs xs ys : List α), layX n vs xs = some ys → ys = lay n vs xs ∧ (vs = [] ∨ n + vs.length ≤ xs.length)
  | n, [], xs, ys, h => by
    have : ys = xs := by cases n <;> cases xs <;> simp_all [layX]
    subst this
    simp [lay]
  | 0, v :: vs, x :: xs, ys, h => by
    rw [layX] at h
    cases e : layX 0 vs xs with
    | none => rw [e] at h; cases h
    | some r =>
      rw [e] at h
      simp only [Option.some.injEq] at h
      obtain ⟨h1, h2⟩ := layX_eq 0 vs xs r e
      subst h
      rw [h1]
      refine ⟨by simp [lay], .inr ?_⟩
      rcases h2 with rfl | h2
      · simp
      · simp at h2 ⊢; omega
  | n + 1, v :: vs, x :: xs, ys, h => by
    rw [layX] at h
    cases e : layX n (v :: vs) xs with
    | none => rw [e] at h; cases h
    | some r =>
      rw [e] at h
      simp only [Option.some.injEq] at h
      obtain ⟨h1, h2⟩ := layX_eq n (v :: vs) xs r e
      subst h
      rw [h1]
      refine ⟨by simp only [lay, List.take_succ_cons, List.cons_append, List.length_cons, List.cons.injEq, true_and]; rw [show n + 1 + (vs.length + 1) = (n + (vs.length + 1)) + 1 by omega, List.drop_succ_cons], .inr ?_⟩
      rcases h2 with h2 | h2
      · cases h2
      · simp at h2 ⊢; omega
  | 0, v :: vs, [], ys, h => by simp [layX] at h
  | n + 1, v :: vs, [], ys, h => by simp [layX] at h
def reps {α : Type} : Nat → List α → List α
  | 0, _ => []
  | n + 1, x => x ++ reps n x
theorem repX_eq {α : Type} : ∀ (n : Nat) (x ys : List α), repX n x = some ys → ys = reps n x
  | 0, x, ys, h => by simp only [repX, Option.some.injEq] at h; exact h.symm
  | n + 1, x, ys, h => by
    rw [repX] at h
    cases e : repX n x with
    | none => rw [e] at h; cases h
    | some r =>
      rw [e] at h
      rw [appX_eq _ _ _ h, repX_eq n x r e]; rfl
theorem forceN_eq {β : Type} (n : Nat) (f : Nat → β) : forceN n f = f n := by cases n <;> rfl
theorem forceV_eq {β : Type} (v : AV) (f : AV → β) : forceV v f = f v := by
  unfold forceV
  split <;> first | rfl | (rw [forceN_eq])

/-! ### Values -/
abbrev Ren := Nat → Option (Nat × Nat)
def Sub (ι ι' : Ren) : Prop := ∀ l x, ι l = some x → ι' l = some x
theorem Sub.refl (ι : Ren) : Sub ι ι := fun _ _ h => h
theorem Sub.trans {a b c : Ren} (h : Sub a b) (k : Sub b c) : Sub a c := fun l x e => k l x (h l x e)
def upto (ι : Ren) (c : Nat) : Ren := fun l => if l < c then ι l else none
theorem upto_sub (ι : Ren) (c : Nat) : Sub (upto ι c) ι := fun l x h => by unfold upto at h; split at h <;> simp_all
theorem upto_mono {ι : Ren} {c d : Nat} (h : c ≤ d) : Sub (upto ι c) (upto ι d) := fun l x e => by
  unfold upto at *
  split at e
  · rw [if_pos (by omega)]; exact e
  · cases e
theorem Sub.upto {ι ι' : Ren} (h : Sub ι ι') (c : Nat) : Sub (upto ι c) (upto ι' c) := fun l x e => by
  unfold Bc.upto at *
  split at e
  · rw [if_pos (by assumption)]; exact h _ _ e
  · cases e

def FnRel (ι : Ren) : Fn → Fn → Prop
  | .yield l, g => ∃ b n, ι l = some (b, n) ∧ g = .yield b
  | f, g => g = f

mutual
def Rel (ι : Ren) : AV → Value → Prop
  | .bool b, v => v = .bool b
  | .int k n, v => v = .int k n
  | .str s, v => v = .string s
  | .ptr l off, v => ∃ b n, ι l = some (b, n) ∧ v = .pointer (some ⟨b, off, none⟩)
  | .nilPtr, v => v = .pointer none
  | .slice l off len es cap, v => ∃ b n c, ι l = some (b, n) ∧ len ≤ c ∧ (∀ k, cap = some k → c = k) ∧ off + c * es ≤ n ∧ v = .slice (some ⟨b, off, none⟩) len c
  | .eslice, v => ∃ a c, v = .slice (some a) 0 c
  | .nilSlice, v => v = .slice none 0 0
  | .map l, v => ∃ b n, ι l = some (b, n) ∧ v = .map (some b)
  | .nilMap, v => v = .map none
  | .func f xs ys, v => ∃ g us vs, FnRel ι f g ∧ Rels ι xs us ∧ Rels ι ys vs ∧ v = .func g ⟨us⟩ ⟨vs⟩
  | .nilFunc, v => v = .nilFunc
  | .iface t x, v => ∃ y, Rel ι x y ∧ v = .iface t y
  | .nilIface, v => v = .nilIface
  | .agg cs, v => ∃ vs, Rels ι cs vs ∧ v = .agg ⟨vs⟩
  | .tuple cs, v => ∃ vs, Rels ι cs vs ∧ v = .tuple ⟨vs⟩
def Rels (ι : Ren) : List AV → List Value → Prop
  | [], vs => vs = []
  | a :: as, vs => ∃ v r, Rel ι a v ∧ Rels ι as r ∧ vs = v :: r
end

theorem FnRel.mono {ι ι' : Ren} (h : Sub ι ι') {f g : Fn} (hr : FnRel ι f g) : FnRel ι' f g := by
  cases f with
  | yield l => obtain ⟨b, n, h1, h2⟩ := hr; exact ⟨b, n, h _ _ h1, h2⟩
  | _ => exact hr

mutual
theorem Rel.mono {ι ι' : Ren} (h : Sub ι ι') : ∀ (a : AV) (v : Value), Rel ι a v → Rel ι' a v
  | .bool b, v, hr => by simpa [Rel] using hr
  | .int k n, v, hr => by simpa [Rel] using hr
  | .str s, v, hr => by simpa [Rel] using hr
  | .ptr l off, v, hr => by
    simp only [Rel] at *
    obtain ⟨b, n, h1, h2⟩ := hr; exact ⟨b, n, h _ _ h1, h2⟩
  | .nilPtr, v, hr => by simpa [Rel] using hr
  | .slice l off len es cap, v, hr => by
    simp only [Rel] at *
    obtain ⟨b, n, c, h1, h2⟩ := hr; exact ⟨b, n, c, h _ _ h1, h2⟩
  | .eslice, v, hr => by simpa [Rel] using hr
  | .nilSlice, v, hr => by simpa [Rel] using hr
  | .map l, v, hr => by
    simp only [Rel] at *
    obtain ⟨b, n, h1, h2⟩ := hr; exact ⟨b, n, h _ _ h1, h2⟩
  | .nilMap, v, hr => by simpa [Rel] using hr
  | .func f xs ys, v, hr => by
    simp only [Rel] at *
    obtain ⟨g, us, vs, h1, h2, h3, h4⟩ := hr
    exact ⟨g, us, vs, h1.mono h, Rels.mono h xs us h2, Rels.mono h ys vs h3, h4⟩
  | .nilFunc, v, hr => by simpa [Rel] using hr
  | .iface t x, v, hr => by
    simp only [Rel] at *
    obtain ⟨y, h1, h2⟩ := hr; exact ⟨y, Rel.mono h x y h1, h2⟩
  | .nilIface, v, hr => by simpa [Rel] using hr
  | .agg cs, v, hr => by
    simp only [Rel] at *
    obtain ⟨vs, h1, h2⟩ := hr; exact ⟨vs, Rels.mono h cs vs h1, h2⟩
  | .tuple cs, v, hr => by
    simp only [Rel] at *
    obtain ⟨vs, h1, h2⟩ := hr; exact ⟨vs, Rels.mono h cs vs h1, h2⟩
theorem Rels.mono {ι ι' : Ren} (h : Sub ι ι') : ∀ (as : List AV) (vs : List Value), Rels ι as vs → Rels ι' as vs
  | [], vs, hr => by simpa [Rels] using hr
  | a :: as, vs, hr => by
    simp only [Rels] at *
    obtain ⟨v, r, h1, h2, h3⟩ := hr
    exact ⟨v, r, Rel.mono h a v h1, Rels.mono h as r h2, h3⟩
end

theorem Rels.nil_iff {ι : Ren} {vs : List Value} : Rels ι [] vs ↔ vs = [] := by simp [Rels]
theorem Rels.cons_iff {ι : Ren} {a : AV} {as : List AV} {vs : List Value} : Rels ι (a :: as) vs ↔ ∃ v r, Rel ι a v ∧ Rels ι as r ∧ vs = v :: r := by simp [Rels]
theorem Rels.length {ι : Ren} : ∀ {as : List AV} {vs : List Value}, Rels ι as vs → vs.length = as.length
  | [], vs, h => by rw [Rels.nil_iff] at h; simp [h]
  | a :: as, vs, h => by
    rw [Rels.cons_iff] at h
    obtain ⟨v, r, _, h2, rfl⟩ := h
    simp [Rels.length h2]
theorem Rels.get {ι : Ren} : ∀ {as : List AV} {vs : List Value}, Rels ι as vs → ∀ (i : Nat) (a : AV), as[i]? = some a → ∃ v, vs[i]? = some v ∧ Rel ι a v
  | [], vs, h, i, a, e => by simp at e
  | b :: as, vs, h, i, a, e => by
    rw [Rels.cons_iff] at h
    obtain ⟨v, r, h1, h2, rfl⟩ := h
    cases i with
    | zero => simp only [List.getElem?_cons_zero, Option.some.injEq] at e; subst e; exact ⟨v, rfl, h1⟩
    | succ i => simp only [List.getElem?_cons_succ] at e ⊢; exact Rels.get h2 i a e
theorem Rels.append {ι : Ren} : ∀ {as : List AV} {vs : List Value} {bs : List AV} {us : List Value}, Rels ι as vs → Rels ι bs us → Rels ι (as ++ bs) (vs ++ us)
  | [], vs, bs, us, h, k => by rw [Rels.nil_iff] at h; subst h; simpa using k
  | a :: as, vs, bs, us, h, k => by
    rw [Rels.cons_iff] at h
    obtain ⟨v, r, h1, h2, rfl⟩ := h
    exact Rels.cons_iff.2 ⟨v, r ++ us, h1, h2.append k, rfl⟩
theorem Rels.take {ι : Ren} : ∀ {as : List AV} {vs : List Value} (n : Nat), Rels ι as vs → Rels ι (as.take n) (vs.take n)
  | _, _, 0, _ => by simp [Rels.nil_iff]
  | [], vs, n + 1, h => by rw [Rels.nil_iff] at h; subst h; simp [Rels.nil_iff]
  | a :: as, vs, n + 1, h => by
    rw [Rels.cons_iff] at h
    obtain ⟨v, r, h1, h2, rfl⟩ := h
    exact Rels.cons_iff.2 ⟨v, _, h1, h2.take n, rfl⟩
theorem Rels.drop {ι : Ren} : ∀ {as : List AV} {vs : List Value} (n : Nat), Rels ι as vs → Rels ι (as.drop n) (vs.drop n)
  | _, _, 0, h => by simpa using h
  | [], vs, n + 1, h => by rw [Rels.nil_iff] at h; subst h; simp [Rels.nil_iff]
  | a :: as, vs, n + 1, h => by
    rw [Rels.cons_iff] at h
    obtain ⟨v, r, h1, h2, rfl⟩ := h
    simpa using h2.drop n
theorem Rels.lay {ι : Ren} {as bs : List AV} {vs us : List Value} (n : Nat) (h : Rels ι as vs) (k : Rels ι bs us) : Rels ι (lay n bs as) (lay n us vs) := by
  unfold Bc.lay
  rw [k.length]
  exact ((h.take n).append k).append (h.drop _)
theorem Rels.reps {ι : Ren} {as : List AV} {vs : List Value} (h : Rels ι as vs) : ∀ n, Rels ι (reps n as) (reps n vs)
  | 0 => by simp [Bc.reps, Rels.nil_iff]
  | n + 1 => h.append (Rels.reps h n)
theorem Rels.of_forall {ι : Ren} {α : Type} (f : α → AV) (g : α → Value) : ∀ (l : List α), (∀ x, x ∈ l → Rel ι (f x) (g x)) → Rels ι (l.map f) (l.map g)
  | [], _ => by simp [Rels.nil_iff]
  | x :: l, h => Rels.cons_iff.2 ⟨g x, l.map g, h x (by simp), Rels.of_forall f g l (fun y hy => h y (by simp [hy])), rfl⟩
theorem Rels.single {ι : Ren} {a : AV} {v : Value} (h : Rel ι a v) : Rels ι [a] [v] := Rels.cons_iff.2 ⟨v, [], h, Rels.nil_iff.2 rfl, rfl⟩

theorem mapX_rels {ι : Ren} {α : Type} (f : α → Option AV) (g : α → Value) (hf : ∀ x y, f x = some y → Rel ι y (g x)) : ∀ (xs : List α) (ys : List AV), mapX f xs = some ys → Rels ι ys (xs.map g)
  | [], ys, h => by simp only [mapX, Option.some.injEq] at h; subst h; simp [Rels.nil_iff]
  | x :: xs, ys, h => by
    rw [mapX] at h
    cases e : f x with
    | none => rw [e] at h; cases h
    | some y =>
      rw [e] at h
      cases e2 : mapX f xs with
      | none => rw [e2] at h; cases h
      | some r =>
        rw [e2] at h
        simp only [Option.some.injEq] at h
        subst h
        exact Rels.cons_iff.2 ⟨_, _, hf x y e, mapX_rels f g hf xs r e2, rfl⟩

/-- A value of the model's, read as one without addresses. -/
theorem of_rel (ι : Ren) : ∀ (n : Nat) (v : Value) (a : AV), AV.of n v = some a → Rel ι a v
  | 0, v, a, h => by cases h
  | n + 1, v, a, h => by
    have hl : ∀ (xs : List Value) (as : List AV), mapX (AV.of n) xs = some as → Rels ι as xs := fun xs as hm => by
      simpa using mapX_rels (AV.of n) id (fun x y e => of_rel ι n x y e) xs as hm
    cases v with
    | func f xs ys =>
      obtain ⟨xs⟩ := xs
      obtain ⟨ys⟩ := ys
      simp only [AV.of] at h
      split at h
      · rename_i e0 e1 e2
        simp only [Option.some.injEq] at h
        subst h
        simp only [Rel]
        exact ⟨f, xs, ys, (by cases f <;> first | rfl | cases e0), hl _ _ e1, hl _ _ e2, rfl⟩
      · cases h
    | iface t x =>
      simp only [AV.of] at h
      split at h
      · rename_i y e
        simp only [Option.some.injEq] at h
        subst h
        simp only [Rel]
        exact ⟨x, of_rel ι n x y e, rfl⟩
      · cases h
    | agg xs =>
      obtain ⟨xs⟩ := xs
      simp only [AV.of] at h
      split at h
      · rename_i as e
        simp only [Option.some.injEq] at h
        subst h
        simp only [Rel]
        exact ⟨xs, hl _ _ e, rfl⟩
      · cases h
    | tuple xs =>
      obtain ⟨xs⟩ := xs
      simp only [AV.of] at h
      split at h
      · rename_i as e
        simp only [Option.some.injEq] at h
        subst h
        simp only [Rel]
        exact ⟨xs, hl _ _ e, rfl⟩
      · cases h
    | bool b => simp only [AV.of, Option.some.injEq] at h; subst h; simp [Rel]
    | int k i => simp only [AV.of, Option.some.injEq] at h; subst h; simp [Rel]
    | string s => simp only [AV.of, Option.some.injEq] at h; subst h; simp [Rel]
    | nilFunc => simp only [AV.of, Option.some.injEq] at h; subst h; simp [Rel]
    | nilIface => simp only [AV.of, Option.some.injEq] at h; subst h; simp [Rel]
    | pointer p => cases p <;> simp only [AV.of, Option.some.injEq, reduceCtorEq] at h; subst h; simp [Rel]
    | map p => cases p <;> simp only [AV.of, Option.some.injEq, reduceCtorEq] at h; subst h; simp [Rel]
    | slice p x y =>
      simp only [AV.of] at h
      split at h <;> simp_all
      subst h; simp [Rel]
    | _ => simp [AV.of] at h

mutual
theorem val_rel {ι : Ren} : ∀ (a : AV) (u v : Value), AV.val a = some u → Rel ι a v → v = u
  | .bool b, u, v, h, hr => by simp only [AV.val, Option.some.injEq] at h; simp only [Rel] at hr; rw [hr, h]
  | .int k n, u, v, h, hr => by simp only [AV.val, Option.some.injEq] at h; simp only [Rel] at hr; rw [hr, h]
  | .str s, u, v, h, hr => by simp only [AV.val, Option.some.injEq] at h; simp only [Rel] at hr; rw [hr, h]
  | .nilPtr, u, v, h, hr => by simp only [AV.val, Option.some.injEq] at h; simp only [Rel] at hr; rw [hr, h]
  | .nilSlice, u, v, h, hr => by simp only [AV.val, Option.some.injEq] at h; simp only [Rel] at hr; rw [hr, h]
  | .nilMap, u, v, h, hr => by simp only [AV.val, Option.some.injEq] at h; simp only [Rel] at hr; rw [hr, h]
  | .nilFunc, u, v, h, hr => by simp only [AV.val, Option.some.injEq] at h; simp only [Rel] at hr; rw [hr, h]
  | .nilIface, u, v, h, hr => by simp only [AV.val, Option.some.injEq] at h; simp only [Rel] at hr; rw [hr, h]
  | .agg xs, u, v, h, hr => by
    simp only [Rel] at hr
    obtain ⟨vs, h1, rfl⟩ := hr
    cases e : AV.vals xs with
    | none => simp [AV.val, e] at h
    | some l =>
      simp only [AV.val, e, Option.some.injEq] at h
      rw [← h, vals_rels xs l vs e h1]
  | .tuple xs, u, v, h, hr => by
    simp only [Rel] at hr
    obtain ⟨vs, h1, rfl⟩ := hr
    cases e : AV.vals xs with
    | none => simp [AV.val, e] at h
    | some l =>
      simp only [AV.val, e, Option.some.injEq] at h
      rw [← h, vals_rels xs l vs e h1]
  | .ptr _ _, u, v, h, hr => by simp [AV.val] at h
  | .slice _ _ _ _ _, u, v, h, hr => by simp [AV.val] at h
  | .eslice, u, v, h, hr => by simp [AV.val] at h
  | .map _, u, v, h, hr => by simp [AV.val] at h
  | .func _ _ _, u, v, h, hr => by simp [AV.val] at h
  | .iface _ _, u, v, h, hr => by simp [AV.val] at h
theorem vals_rels {ι : Ren} : ∀ (as : List AV) (us vs : List Value), AV.vals as = some us → Rels ι as vs → vs = us
  | [], us, vs, h, hr => by simp only [AV.vals, Option.some.injEq] at h; rw [Rels.nil_iff] at hr; rw [hr, h]
  | a :: as, us, vs, h, hr => by
    rw [Rels.cons_iff] at hr
    obtain ⟨v, r, h1, h2, rfl⟩ := hr
    cases e : AV.val a with
    | none => simp [AV.vals, e] at h
    | some x =>
      cases e2 : AV.vals as with
      | none => simp [AV.vals, e, e2] at h
      | some l =>
        simp only [AV.vals, e, e2, Option.some.injEq] at h
        rw [← h, val_rel a x v e h1, vals_rels as l r e2 h2]
end

theorem ByteArray.eq_of_list {a b : ByteArray} (h : a.data.toList = b.data.toList) : a = b := by
  cases a; cases b
  simp only at h
  rw [Array.toList_inj.1 h]

mutual
theorem same_eq : ∀ (a b : AV), AV.same a b = true → a = b
  | .bool a, b, h => by cases b <;> simp_all [AV.same]
  | .int k n, b, h => by cases b <;> simp_all [AV.same]
  | .str s, b, h => by
    cases b <;> simp_all [AV.same]
    exact ByteArray.eq_of_list (by simpa using h)
  | .ptr l o, b, h => by cases b <;> simp_all [AV.same]
  | .nilPtr, b, h => by cases b <;> simp_all [AV.same]
  | .slice l o n e c, b, h => by cases b <;> simp_all [AV.same]
  | .eslice, b, h => by cases b <;> simp_all [AV.same]
  | .nilSlice, b, h => by cases b <;> simp_all [AV.same]
  | .map l, b, h => by cases b <;> simp_all [AV.same]
  | .nilMap, b, h => by cases b <;> simp_all [AV.same]
  | .func f xs ys, b, h => by
    cases b with
    | func g us vs =>
      simp only [AV.same, Bool.and_eq_true, decide_eq_true_eq] at h
      rw [h.1.1, sames_eq xs us h.1.2, sames_eq ys vs h.2]
    | _ => simp [AV.same] at h
  | .nilFunc, b, h => by cases b <;> simp_all [AV.same]
  | .iface t x, b, h => by
    cases b with
    | iface u y =>
      simp only [AV.same, Bool.and_eq_true, beqT] at h
      rw [h.1, same_eq x y h.2]
    | _ => simp [AV.same] at h
  | .nilIface, b, h => by cases b <;> simp_all [AV.same]
  | .agg xs, b, h => by
    cases b with
    | agg ys => simp only [AV.same] at h; rw [sames_eq xs ys h]
    | _ => simp [AV.same] at h
  | .tuple xs, b, h => by
    cases b with
    | tuple ys => simp only [AV.same] at h; rw [sames_eq xs ys h]
    | _ => simp [AV.same] at h
theorem sames_eq : ∀ (as bs : List AV), AV.sames as bs = true → as = bs
  | [], bs, h => by cases bs <;> simp_all [AV.sames]
  | a :: as, bs, h => by
    cases bs with
    | nil => simp [AV.sames] at h
    | cons b bs =>
      simp only [AV.sames, Bool.and_eq_true] at h
      rw [same_eq a b h.1, sames_eq as bs h.2]
end

theorem Rel.cells {ι : Ren} {a : AV} {v : Value} (h : Rel ι a v) : Rels ι a.cells v.cells.toList := by
  cases a with
  | agg cs =>
    simp only [Rel] at h
    obtain ⟨vs, h1, rfl⟩ := h
    simpa [AV.cells, Value.cells] using h1
  | _ =>
    have e : v.cells = #[v] := by
      simp only [Rel] at h
      first
        | (subst h; rfl)
        | (obtain ⟨_, _, _, rfl⟩ := h; rfl)
        | (obtain ⟨_, _, rfl⟩ := h; rfl)
        | (obtain ⟨_, _, _, _, _, _, _, rfl⟩ := h; rfl)
        | (obtain ⟨_, _, _, _, _, _, rfl⟩ := h; rfl)
    rw [e]
    exact Rels.single h

theorem Rel.isCell {ι : Ren} {a : AV} {v : Value} (h : Rel ι a v) (hc : a.isCell = true) : v.oneCell' = true := by
  cases a <;> simp only [Rel] at h <;> first
    | (cases hc; done)
    | (subst h; rfl)
    | (obtain ⟨_, _, _, rfl⟩ := h; rfl)
    | (obtain ⟨_, _, rfl⟩ := h; rfl)
    | (obtain ⟨_, _, _, _, _, _, _, rfl⟩ := h; rfl)
    | (obtain ⟨_, _, _, _, _, _, rfl⟩ := h; rfl)
end Go.Proofs.Bc
