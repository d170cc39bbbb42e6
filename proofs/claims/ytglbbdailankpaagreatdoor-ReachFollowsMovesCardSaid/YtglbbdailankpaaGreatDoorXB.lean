/- The executor's heap against the model's; what a step leaves. -/
import Derived.Test.YtglbbdailankpaaGreatDoorXA
namespace Go.Proofs.Bc
open Go

structure TmRel (ι : Ren) (tm : Tr AV) (nt : Nat) (tmps : Array Value) : Prop where
  get : ∀ t a, tm.get t = some a → Rel ι a (tmps.getD t undef)
  size : tmps.size = nt

theorem TmRel.mono {ι ι' : Ren} (h : Sub ι ι') {tm : Tr AV} {nt : Nat} {tmps : Array Value} (k : TmRel ι tm nt tmps) : TmRel ι' tm nt tmps :=
  ⟨fun t a e => (k.get t a e).mono h, k.size⟩

def DefRel (ι : Ren) : ADef → Deferred → Prop
  | .fn f cap args, d => ∃ vs us, plainFn f = true ∧ Rels ι cap vs ∧ Rels ι args us ∧ d = { target := .fn f ⟨vs⟩, args := ⟨us⟩ }
  | .coll l, d => ∃ b n, ι l = some (b, n) ∧ d = { target := .collected b, args := #[] }
def DefsRel (ι : Ren) : List ADef → List Deferred → Prop
  | [], ds => ds = []
  | a :: as, ds => ∃ d r, DefRel ι a d ∧ DefsRel ι as r ∧ ds = d :: r
theorem DefRel.mono {ι ι' : Ren} (h : Sub ι ι') : ∀ {a : ADef} {d : Deferred}, DefRel ι a d → DefRel ι' a d
  | .fn _ _ _, _, ⟨vs, us, h0, h1, h2, h3⟩ => ⟨vs, us, h0, h1.mono h, h2.mono h, h3⟩
  | .coll _, _, ⟨b, n, h1, h2⟩ => ⟨b, n, h _ _ h1, h2⟩
theorem DefsRel.mono {ι ι' : Ren} (h : Sub ι ι') : ∀ {as : List ADef} {ds : List Deferred}, DefsRel ι as ds → DefsRel ι' as ds
  | [], _, k => k
  | _ :: _, _, ⟨d, r, h1, h2, h3⟩ => ⟨d, r, h1.mono h, DefsRel.mono h h2, h3⟩

structure FrRel (ι : Ren) (fr : Fr) (a : Act) : Prop where
  tm : TmRel ι fr.tm fr.nt a.tmps
  ds : DefsRel ι fr.ds a.defers
theorem FrRel.mono {ι ι' : Ren} (h : Sub ι ι') {fr : Fr} {a : Act} (k : FrRel ι fr a) : FrRel ι' fr a := ⟨k.tm.mono h, k.ds.mono h⟩

def ERel (ι : Ren) (e : AV × AV × Nat) (m : MapEntry) : Prop := Rel ι e.1 m.key ∧ Rel ι e.2.1 m.val ∧ m.born = e.2.2
def ERels (ι : Ren) : List (AV × AV × Nat) → List MapEntry → Prop
  | [], ms => ms = []
  | e :: es, ms => ∃ m r, ERel ι e m ∧ ERels ι es r ∧ ms = m :: r
theorem ERels.mono {ι ι' : Ren} (h : Sub ι ι') : ∀ {es : List (AV × AV × Nat)} {ms : List MapEntry}, ERels ι es ms → ERels ι' es ms
  | [], _, k => k
  | _ :: _, _, ⟨d, r, h1, h2, h3⟩ => ⟨d, r, ⟨h1.1.mono h, h1.2.1.mono h, h1.2.2⟩, ERels.mono h h2, h3⟩

def ORel (ι : Ren) (n : Nat) : AObj → Obj → Prop
  | .cells cs t, ob => ∃ vs fr, ob = .cells ⟨vs⟩ t fr ∧ vs.length = n ∧ cs.length ≤ n ∧ Rels ι cs (vs.take cs.length)
  | .map es clock, ob => ∃ ms, ob = .map ⟨ms⟩ clock ∧ ERels ι es ms
  | .iter s pos, ob => ob = .stringIter s pos
  | .miter m since seen stepped, ob => ∃ b k, ι m = some (b, k) ∧ ob = .mapIter (some b) since ⟨seen⟩ stepped
  | .nmiter, ob => ob = .mapIter none 0 #[] 0
  | .deferred, ob => ob = .deferred (some [])
  | .loop s pend _ tm nt ps assign body d, ob => ∃ tmps b k fn', ι d = some (b, k) ∧ TmRel ι tm nt tmps ∧ ob = .loop { state := s, pending := pend, fn := fn', tmps := tmps, params := ⟨ps⟩, assign := assign, body := body, defers := b }
theorem ORel.mono {ι ι' : Ren} (h : Sub ι ι') {n : Nat} : ∀ {o : AObj} {ob : Obj}, ORel ι n o ob → ORel ι' n o ob
  | .cells _ _, _, ⟨vs, fr, h1, h2, h3, h4⟩ => ⟨vs, fr, h1, h2, h3, h4.mono h⟩
  | .map _ _, _, ⟨ms, h1, h2⟩ => ⟨ms, h1, h2.mono h⟩
  | .iter _ _, _, k => k
  | .miter _ _ _ _, _, ⟨b, k, h1, h2⟩ => ⟨b, k, h _ _ h1, h2⟩
  | .nmiter, _, k => k
  | .deferred, _, k => k
  | .loop _ _ _ _ _ _ _ _ _, _, ⟨tmps, b, k, f, h1, h2, h3⟩ => ⟨tmps, b, k, f, h _ _ h1, h2.mono h, h3⟩

/-- Not frozen where cells lie. -/
def unfrozen : Obj → Prop
  | .cells c _ fr => ∀ i, i < c.size → ¬ (fr.1 ≤ i ∧ i < fr.2)
  | _ => True

variable (P : Program)

/-- The heap h lies in the world w, by the renaming ι. -/
structure HRel (ι : Ren) (h : Tr AObj) (w : World) : Prop where
  at_ : ∀ l o, h.get l = some o → ∃ b n ob, ι l = some (b, n) ∧ w.heap[b]? = some ob ∧ ORel ι n o ob ∧ (P.globals.size ≤ l → unfrozen ob)
  inj : ∀ l m b n k, h.get l ≠ none → h.get m ≠ none → ι l = some (b, n) → ι m = some (b, k) → l = m

structure Inv (ι : Ren) (st : St) (w : World) : Prop where
  heap : HRel P ι st.h w
  lt : ∀ l, st.h.get l ≠ none → l < st.c
  lo : st.lo ≤ st.c
  glo : P.globals.size ≤ st.lo
  glob : ∀ g, g < P.globals.size → ∃ n, ι g = some (g, n)
  fresh : ∀ l, st.c ≤ l → ι l = none

/-- Streams and tape as they were; blocks that are not the writer's own lie as they lay. -/
structure Evo (ι : Ren) (h : Tr AObj) (lo : Nat) (w w' : World) : Prop where
  os : w'.os = w.os
  tape : w'.tape = w.tape
  output : w'.output = w.output
  size : w.heap.size ≤ w'.heap.size
  same : ∀ b, b < w.heap.size → (∀ l n, lo ≤ l → h.get l ≠ none → ι l = some (b, n) → False) → w'.heap[b]? = w.heap[b]?

structure Post (ι : Ren) (st : St) (w : World) (ι' : Ren) (st' : St) (w' : World) : Prop where
  sub : Sub ι ι'
  dom : ∀ l, l < st.c → ι' l = ι l
  c : st.c ≤ st'.c
  lo : st'.lo = st.lo
  old : ∀ l, l < st.lo → st'.h.get l = st.h.get l
  inv : Inv P ι' st' w'
  evo : Evo ι st.h st.lo w w'
  own : ∀ l b n, st.lo ≤ l → st'.h.get l ≠ none → ι' l = some (b, n) → w.heap.size ≤ b ∨ ∃ m k, st.lo ≤ m ∧ st.h.get m ≠ none ∧ ι m = some (b, k)

variable {P}

theorem HRel.lt_size {ι : Ren} {h : Tr AObj} {w : World} (hr : HRel P ι h w) {l b n : Nat} (hl : h.get l ≠ none) (hi : ι l = some (b, n)) : b < w.heap.size := by
  cases e : h.get l with
  | none => exact absurd e hl
  | some o =>
    obtain ⟨b', n', ob, h1, h2, _⟩ := hr.at_ l o e
    rw [hi] at h1
    cases h1
    exact (Array.getElem?_eq_some_iff.1 h2).1

theorem Evo.refl (ι : Ren) (h : Tr AObj) (lo : Nat) (w : World) : Evo ι h lo w w := ⟨rfl, rfl, rfl, Nat.le_refl _, fun _ _ _ => rfl⟩

theorem Post.refl {ι : Ren} {st : St} {w : World} (hI : Inv P ι st w) : Post P ι st w ι st w :=
  ⟨Sub.refl ι, fun _ _ => rfl, Nat.le_refl _, rfl, fun _ _ => rfl, hI, Evo.refl _ _ _ _, fun l _ n hl hg hi => .inr ⟨l, n, hl, hg, hi⟩⟩

theorem Post.trans {ι ι1 ι2 : Ren} {st st1 st2 : St} {w w1 w2 : World} (h : Post P ι st w ι1 st1 w1) (k : Post P ι1 st1 w1 ι2 st2 w2) : Post P ι st w ι2 st2 w2 := by
  refine ⟨h.sub.trans k.sub, fun l hl => (k.dom l (Nat.lt_of_lt_of_le hl h.c)).trans (h.dom l hl), Nat.le_trans h.c k.c, k.lo.trans h.lo, fun l hl => (k.old l (by rw [h.lo]; exact hl)).trans (h.old l hl), k.inv, ?_, ?_⟩
  · refine ⟨k.evo.os.trans h.evo.os, k.evo.tape.trans h.evo.tape, k.evo.output.trans h.evo.output, Nat.le_trans h.evo.size k.evo.size, fun b hb hno => ?_⟩
    refine (k.evo.same b (Nat.lt_of_lt_of_le hb h.evo.size) ?_).trans (h.evo.same b hb hno)
    intro l n hl hg hi
    rcases h.own l b n (by rw [← h.lo]; exact hl) hg hi with hs | ⟨m, j, hm, hgm, him⟩
    · omega
    · exact hno m j hm hgm him
  · intro l b n hl hg hi
    rcases k.own l b n (by rw [h.lo]; exact hl) hg hi with hs | ⟨m, j, hm, hgm, him⟩
    · exact .inl (Nat.le_trans h.evo.size hs)
    · exact h.own m b j (by rw [← h.lo]; exact hm) hgm him

/-- A world with the same heap. -/
structure Alike (w w' : World) : Prop where
  heap : w'.heap = w.heap
  os : w'.os = w.os
  tape : w'.tape = w.tape
  output : w'.output = w.output
theorem Inv.alike {ι : Ren} {st : St} {w w' : World} (h : Inv P ι st w) (e : w'.heap = w.heap) : Inv P ι st w' :=
  ⟨⟨fun l o hl => by rw [e]; exact h.heap.at_ l o hl, h.heap.inj⟩, h.lt, h.lo, h.glo, h.glob, h.fresh⟩
theorem Post.alike {ι : Ren} {st : St} {w w' : World} (h : Inv P ι st w) (e : Alike w w') : Post P ι st w ι st w' :=
  ⟨Sub.refl ι, fun _ _ => rfl, Nat.le_refl _, rfl, fun _ _ => rfl, h.alike e.heap, ⟨e.os, e.tape, e.output, by rw [e.heap]; exact Nat.le_refl _, fun b _ _ => by rw [e.heap]⟩, fun l b n hl hg hi => .inr ⟨l, n, hl, hg, hi⟩⟩

/-- The renaming with one more. -/
def Ren.add (ι : Ren) (l b n : Nat) : Ren := fun i => if i = l then some (b, n) else ι i
theorem Ren.add_sub {ι : Ren} {l : Nat} (h : ι l = none) (b n : Nat) : Sub ι (ι.add l b n) := fun i x e => by
  unfold Ren.add
  split
  · subst_vars; rw [h] at e; cases e
  · exact e
theorem Ren.add_same (ι : Ren) (l b n : Nat) : ι.add l b n l = some (b, n) := by simp [Ren.add]
theorem Ren.add_ne {ι : Ren} {l b n i : Nat} (h : i ≠ l) : ι.add l b n i = ι i := by simp [Ren.add, h]

theorem new_eq {st st' : St} {o : AObj} {l : Nat} (h : st.new o = some (l, st')) : l = st.c ∧ st'.c = st.c + 1 ∧ st'.lo = st.lo ∧ ∀ j, st'.h.get j = if j = st.c then some o else st.h.get j := by
  unfold St.new at h
  cases e : Tr.put fuelT st.h st.c (some o) with
  | none => rw [e] at h; cases h
  | some t =>
    rw [e] at h
    simp only [forceN_eq, Option.some.injEq, Prod.mk.injEq] at h
    obtain ⟨rfl, rfl⟩ := h
    exact ⟨rfl, rfl, rfl, Tr.get_put _ _ _ _ _ e⟩

/-- A new object. -/
theorem Post.new {ι : Ren} {st st' : St} {w : World} {o : AObj} {l : Nat} (hI : Inv P ι st w) (h : st.new o = some (l, st')) (ob : Obj) (n : Nat) (ho : ORel ι n o ob) (hf : unfrozen ob) :
    Post P ι st w (ι.add l w.heap.size n) st' (w.alloc ob) ∧ (ι.add l w.heap.size n) l = some (w.heap.size, n) := by
  obtain ⟨rfl, hc, hlo, hg⟩ := new_eq h
  have hno : ι st.c = none := hI.fresh _ (Nat.le_refl _)
  have hsub := Ren.add_sub hno w.heap.size n
  refine ⟨⟨hsub, fun l hl => Ren.add_ne (by omega), by omega, hlo, fun l hl => ?_, ⟨⟨fun l o' hl => ?_, fun l m b n' k hl hm hil him => ?_⟩, fun l hl => ?_, by have := hI.lo; omega, by rw [hlo]; exact hI.glo, fun g hgg => ?_, fun l hl => ?_⟩, ⟨rfl, rfl, rfl, by simp, fun b hb _ => heap_alloc_old w ob b hb⟩, fun l b n' hl hg' hi => ?_⟩, Ren.add_same _ _ _ _⟩
  · rw [hg, if_neg (by have := hI.lo; omega)]
  · rw [hg] at hl
    by_cases e : l = st.c
    · subst e
      rw [if_pos rfl] at hl
      cases hl
      exact ⟨_, _, ob, Ren.add_same _ _ _ _, heap_alloc_new w ob, ho.mono hsub, fun _ => hf⟩
    · rw [if_neg e] at hl
      obtain ⟨b, k, ob', h1, h2, h3, h4⟩ := hI.heap.at_ l o' hl
      exact ⟨b, k, ob', hsub _ _ h1, (heap_alloc_old w ob b (Array.getElem?_eq_some_iff.1 h2).1).trans h2, h3.mono hsub, h4⟩
  · rw [hg] at hl hm
    by_cases el : l = st.c
    · by_cases em : m = st.c
      · rw [el, em]
      · rw [if_neg em] at hm
        rw [Ren.add_ne em] at him
        have := hI.heap.lt_size hm him
        rw [el, Ren.add_same] at hil
        cases hil
        omega
    · rw [if_neg el] at hl
      rw [Ren.add_ne el] at hil
      by_cases em : m = st.c
      · have := hI.heap.lt_size hl hil
        rw [em, Ren.add_same] at him
        cases him
        omega
      · rw [if_neg em] at hm
        rw [Ren.add_ne em] at him
        exact hI.heap.inj l m b n' k hl hm hil him
  · rw [hg] at hl
    by_cases e : l = st.c
    · omega
    · rw [if_neg e] at hl
      have := hI.lt l hl; omega
  · obtain ⟨k, hk⟩ := hI.glob g hgg
    exact ⟨k, hsub _ _ hk⟩
  · rw [Ren.add_ne (by omega)]
    exact hI.fresh l (by omega)
  · rw [hg] at hg'
    by_cases e : l = st.c
    · subst e
      rw [Ren.add_same] at hi
      cases hi
      exact .inl (Nat.le_refl _)
    · rw [if_neg e] at hg'
      rw [Ren.add_ne e] at hi
      exact .inr ⟨l, n', hl, hg', hi⟩

theorem turn_eq {st st' : St} {l : Nat} {o : Option AObj} (h : st.turn l o = some st') : st.lo ≤ l ∧ st'.c = st.c ∧ st'.lo = st.lo ∧ ∀ j, st'.h.get j = if j = l then o else st.h.get j := by
  unfold St.turn at h
  cases e0 : Nat.ble st.lo l with
  | false => rw [e0] at h; cases h
  | true =>
    rw [e0] at h
    cases e : Tr.put fuelT st.h l o with
    | none => rw [e] at h; cases h
    | some t =>
      rw [e] at h
      simp only [Option.some.injEq] at h
      subst h
      exact ⟨bleT.1 e0, rfl, rfl, Tr.get_put _ _ _ _ _ e⟩

/-- What lay at l is forgotten. -/
theorem Post.drop {ι : Ren} {st st' : St} {w : World} {l : Nat} (hI : Inv P ι st w) (h : st.turn l none = some st') : Post P ι st w ι st' w := by
  obtain ⟨hlo, hc, hlo', hg⟩ := turn_eq h
  have hsome : ∀ {m : Nat}, st'.h.get m ≠ none → st.h.get m ≠ none := fun {m} hm => by
    rw [hg] at hm
    by_cases e : m = l
    · rw [if_pos e] at hm; exact absurd rfl hm
    · rwa [if_neg e] at hm
  refine ⟨Sub.refl ι, fun _ _ => rfl, by omega, hlo', fun m hm => by rw [hg, if_neg (by omega)], ⟨⟨fun m o hm => ?_, fun m k b n j hm hk => hI.heap.inj m k b n j (hsome hm) (hsome hk)⟩, fun m hm => by rw [hc]; exact hI.lt m (hsome hm), by rw [hlo', hc]; exact hI.lo, by rw [hlo']; exact hI.glo, hI.glob, by rw [hc]; exact hI.fresh⟩, Evo.refl _ _ _ _, fun m b n hm hgm hi => .inr ⟨m, n, hm, hsome hgm, hi⟩⟩
  rw [hg] at hm
  by_cases e : m = l
  · rw [if_pos e] at hm; cases hm
  · rw [if_neg e] at hm; exact hI.heap.at_ m o hm

/-- What lies at l is turned, and nothing else. -/
theorem Post.turn {ι : Ren} {st st' : St} {w w' : World} {l b n : Nat} {o o' : AObj} (hI : Inv P ι st w) (h : st.turn l (some o') = some st') (hl : st.h.get l = some o) (hi : ι l = some (b, n))
    (ob' : Obj) (hb : w'.heap[b]? = some ob') (ho : ORel ι n o' ob') (hf : unfrozen ob') (hsize : w'.heap.size = w.heap.size) (hother : ∀ k, k ≠ b → w'.heap[k]? = w.heap[k]?)
    (hos : w'.os = w.os) (htape : w'.tape = w.tape) (hout : w'.output = w.output) : Post P ι st w ι st' w' := by
  obtain ⟨hlo, hc, hlo', hg⟩ := turn_eq h
  have hln : st.h.get l ≠ none := by rw [hl]; simp
  have hsome : ∀ {m : Nat}, st'.h.get m ≠ none → st.h.get m ≠ none := fun {m} hm => by
    rw [hg] at hm
    by_cases e : m = l
    · rw [e]; exact hln
    · rwa [if_neg e] at hm
  refine ⟨Sub.refl ι, fun _ _ => rfl, by omega, hlo', fun m hm => by rw [hg, if_neg (by omega)], ⟨⟨fun m u hm => ?_, fun m k b n j hm hk => hI.heap.inj m k b n j (hsome hm) (hsome hk)⟩, fun m hm => by rw [hc]; exact hI.lt m (hsome hm), by rw [hlo', hc]; exact hI.lo, by rw [hlo']; exact hI.glo, hI.glob, by rw [hc]; exact hI.fresh⟩, ⟨hos, htape, hout, by omega, fun k _ hno => hother k fun e => hno l n hlo hln (e ▸ hi)⟩, fun m b n hm hgm hi => .inr ⟨m, n, hm, hsome hgm, hi⟩⟩
  rw [hg] at hm
  by_cases e : m = l
  · rw [if_pos e] at hm
    cases hm
    subst e
    exact ⟨b, n, ob', hi, hb, ho, fun _ => hf⟩
  · rw [if_neg e] at hm
    obtain ⟨b2, n2, ob2, h1, h2, h3, h4⟩ := hI.heap.at_ m u hm
    have hne : b2 ≠ b := fun eb => e (hI.heap.inj m l b n2 n (by rw [hm]; simp) hln (eb ▸ h1) hi)
    exact ⟨b2, n2, ob2, h1, (hother b2 hne).trans h2, h3, h4⟩
end Go.Proofs.Bc
