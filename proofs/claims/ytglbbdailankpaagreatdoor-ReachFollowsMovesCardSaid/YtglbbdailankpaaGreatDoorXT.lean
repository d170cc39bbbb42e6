/- Regions that draw their order: sound. -/
import Derived.Test.YtglbbdailankpaaGreatDoorXS
namespace Go.Proofs.Bc
open Go
variable {P : Program}

section
variable {T : Tools} {mode : Nat} {F : Fence} {n : Nat} {ops : Array Oper} {ms : List Nat} {k kk : Nat} {core : Tr AObj} {cf : Nat → Nat} {asf : Nat → List Laid} {frf : Nat → Fr} {vf : Nat → AV} {Nf : Nat → Nat → Option AObj}
variable {ι0 ι : Ren} {w0 w : World} {a0 a : Act} {st0 : St} {listed : Array Bool}

theorem ready_getD {i : Nat} (hs : listed.size = ops.size) (hi : i ∈ Region.ready .any ops listed) : listed.getD i false = false ∧ i < ops.size := by
  obtain ⟨h0, o, ho, _⟩ := mem_ready.1 hi
  have hil : i < ops.size := (Array.getElem?_eq_some_iff.1 ho).1
  refine ⟨?_, hil⟩
  rw [Array.getD_eq_getD_getElem?, Array.getElem?_eq_getElem (by omega)] at h0 ⊢
  exact h0

/-- The last operations, in their order. -/
def TailI (P : Program) (T : Tools) (mode : Nat) (ops : Array Oper) (ms : List Nat) (k : Nat) (ι0 : Ren) (st0 : St) (w0 : World) (fr' : Fr) (st' : St) (listed : Array Bool) (a : Act) (w : World) : Prop :=
  Closed ms listed ∧ ∃ q, k ≤ q ∧ q ≤ ops.size ∧ (∀ j, j < q → listed.getD j false = true) ∧ (∀ j, q ≤ j → listed.getD j false = false) ∧
    ∃ ι st fr, FrRel ι fr a ∧ Post P ι0 st0 w0 ι st w ∧ opsX P T mode ops.toList (ops.toList.drop q) fr st = some (fr', st')

theorem tail_step (hF : modeF mode F) (hT : CallOK P T) {Q : Exit → Act → World → Prop} (hok : RegOk ops ms k) {fr' : Fr} {st' : St} {i : Nat} (hs : listed.size = ops.size) (h : TailI P T mode ops ms k ι0 st0 w0 fr' st' listed a w) (hi : i ∈ Region.ready .any ops listed) :
    wpOpIn F n P ops Q i (TailI P T mode ops ms k ι0 st0 w0 fr' st' (listed.setIfInBounds i true)) a w := by
  obtain ⟨hcl, q, hkq, hq, hall, hno, ι, st, fr, hfr, hp, hx⟩ := h
  obtain ⟨hi0, hil⟩ := ready_getD hs hi
  have hpre := ready_closed hok hcl hi
  have hiq : i = q := by
    rcases Nat.lt_trichotomy i q with h | h | h
    · rw [hall i h] at hi0; cases hi0
    · exact h
    · have := hpre q (hok.full.2 i (by omega) hil q h)
      rw [hno q (Nat.le_refl _)] at this; cases this
  subst hiq
  have hd1 : ops.toList.drop i = ops[i] :: ops.toList.drop (i + 1) := by
    rw [List.drop_eq_getElem_cons (by simpa using hil)]; rfl
  rw [hd1, opsX] at hx
  have hset := fun j => getD_set_iff (j := j) (listed := listed) (i := i) (by omega)
  unfold wpOpIn
  rw [Array.getElem?_eq_getElem hil]
  simp only
  split at hx
  · rename_i fr1 st1 hstep
    refine step_sound hT hF hstep hfr hp.inv (fun a' w' ι' hfr' hp' => ⟨closed_set hok hcl hi (by omega), i + 1, by omega, by omega, fun j hj => (hset j).2 ?_, fun j hj => ?_, ι', st1, fr1, hfr', hp.trans hp', hx⟩)
    · rcases Nat.lt_or_ge j i with h | h
      · exact .inr (hall j h)
      · exact .inl (by omega)
    · cases hc : (listed.setIfInBounds i true).getD j false with
      | false => rfl
      | true =>
        rcases (hset j).1 hc with h | h
        · omega
        · rw [hno j (by omega)] at h; cases h
  · cases hx

theorem tail_end {fr' : Fr} {st' : St} (h : TailI P T mode ops ms k ι0 st0 w0 fr' st' listed a w) (hall : ∀ j, j < ops.size → listed.getD j false = true) : ∃ ι, FrRel ι fr' a ∧ Post P ι0 st0 w0 ι st' w := by
  obtain ⟨_, q, _, hq, _, hno, ι, st, fr, hfr, hp, hx⟩ := h
  have hqs : q = ops.size := by
    rcases Nat.lt_or_ge q ops.size with h | h
    · exact absurd (hall q h) (by rw [hno q (Nat.le_refl _)]; simp)
    · omega
  subst hqs
  rw [List.drop_of_length_le (by simp)] at hx
  simp only [opsX, Option.some.injEq, Prod.mk.injEq] at hx
  obtain ⟨rfl, rfl⟩ := hx
  exact ⟨ι, hfr, hp⟩

theorem tail_start (hok : RegOk ops ms k) {fr' fr : Fr} {st' st : St} (hcl : Closed ms listed) (hall : ∀ j, j < k → listed.getD j false = true) (hno : ∀ j, k ≤ j → listed.getD j false = false) (hfr : FrRel ι fr a) (hp : Post P ι0 st0 w0 ι st w) (hx : opsX P T mode ops.toList (ops.toList.drop k) fr st = some (fr', st')) :
    TailI P T mode ops ms k ι0 st0 w0 fr' st' listed a w := ⟨hcl, k, Nat.le_refl _, hok.full.1, hall, hno, ι, st, fr, hfr, hp, hx⟩

theorem replicate_getD {m j : Nat} : (Array.replicate m false).getD j false = false := by
  rw [Array.getD_eq_getD_getElem?, Array.getElem?_replicate]
  split <;> rfl
theorem closed_replicate {m : Nat} : Closed ms (Array.replicate m false) := fun i j h => by rw [replicate_getD] at h; cases h

/-- The data of a head's run. -/
theorem hd_of {fr fr' : Fr} {as : List Laid} {c c' : Nat} (hok : RegOk ops ms k) (hkk : kk ≤ k) (h : headX P T mode ops.toList core (ops.toList.take kk) ms 0 c [] fr = some (fr', as, c')) :
    ∃ cf asf frf vf Nf, HD P T mode ops ms k kk core cf asf frf vf Nf ∧ cf 0 = c ∧ frf 0 = fr ∧ cf kk = c' ∧ asf kk = as ∧ frf kk = fr' := by
  obtain ⟨cf, asf, frf, vf, Nf, e1, e2, e3, e4, e5, e6, hall⟩ := head_trace _ _ _ _ _ _ _ _ _ h
  have hlen : (ops.toList.take kk).length = kk := by
    have := hok.full.1
    simp; omega
  rw [hlen, Nat.zero_add] at e4 e5 e6
  refine ⟨cf, asf, frf, vf, Nf, ⟨hok, hkk, e2, fun i o hi ho => ?_⟩, e1, e3, e4, e5, e6⟩
  obtain ⟨m, hm, hone⟩ := hall i o (by rw [List.getElem?_take_of_lt hi]; simpa using ho)
  rw [Nat.zero_add] at hone
  exact ⟨m, by rw [nthX_get]; exact hm, hone⟩

theorem mask_all {kk j : Nat} (h : j < kk) : (Nat.sub (Nat.pow 2 kk) 1).testBit j = true := by
  show (2 ^ kk - 1).testBit j = true
  rw [Nat.testBit_two_pow_sub_one]
  simpa using h

theorem all_or (listed : Array Bool) (m : Nat) : (∀ j, j < m → listed.getD j false = true) ∨ ∃ j, j < m ∧ listed.getD j false = false := by
  by_cases h : ∃ j, j < m ∧ listed.getD j false = false
  · exact .inr h
  · exact .inl fun j hj => by
      cases hc : listed.getD j false with
      | true => rfl
      | false => exact absurd ⟨j, hj, hc⟩ h

/-- The invariant of a region without a pivot. -/
theorem plain_draw (hF : modeF mode F) (hT : CallOK P T) {Q : Exit → Act → World → Prop} (hok : RegOk ops ms k) {fr fr' : Fr} {st' : St} (h : plainDrawX P T mode ops.toList ms k fr st0 = some (fr', st')) (hfr : FrRel ι0 fr a0) (hI : Inv P ι0 st0 w0)
    (hQ : ∀ a' w' ι', FrRel ι' fr' a' → Post P ι0 st0 w0 ι' st' w' → Q .normal a' w') : wpAnyIn F n P .any ops Q ops.size (Array.replicate ops.size false) a0 w0 := by
  unfold plainDrawX at h
  split at h
  · rename_i fr1 as c hhead
    split at h
    · rename_i hh hwith
      obtain ⟨cf, asf, frf, vf, Nf, H, e1, e2, e3, e4, e5⟩ := hd_of hok (Nat.le_refl k) hhead
      subst e2 e3 e4 e5
      have hc0 : st0.c = cf 0 := e1.symm
      -- all of the head are listed: the tail
      have fin : ∀ listed ι w a, HInv ops k cf vf Nf ι0 w0 a0 listed ι w a → Closed ms listed → (∀ j, j < k → listed.getD j false = true) → (∀ j, k ≤ j → listed.getD j false = false) → TailI P T mode ops ms k ι0 st0 w0 fr' st' listed a w := by
        intro listed ι w a hH hcl hall hno
        exact tail_start hok hcl hall hno (hH.frame H hI hc0 hfr hall) (hH.post H hI rfl hc0 hwith (fun j hj _ _ => hall j hj)) h
      refine wpAnyIn_inv hok.edge (fun listed a w => ((∃ ι, HInv ops k cf vf Nf ι0 w0 a0 listed ι w a) ∧ Closed ms listed ∧ (∀ j, k ≤ j → listed.getD j false = false) ∧ ∃ j, j < k ∧ listed.getD j false = false) ∨ TailI P T mode ops ms k ι0 st0 w0 fr' st' listed a w) ?_ ?_ _ _ _ _ (by simp) (by
        have := List.countP_le_length (p := fun b => !b) (l := (Array.replicate ops.size false).toList)
        simpa using this) ?_
      · intro listed a w i hs hIn hi hi0 hil
        rcases hIn with ⟨⟨ι, hH⟩, hcl, hno, j, hj, hj0⟩ | hTail
        · have hpre := ready_closed hok hcl hi
          have hik : i < k := by
            rcases Nat.lt_or_ge i k with h | h
            · exact h
            · have := hpre j (hok.full.2 i h hil j (by omega))
              rw [hj0] at this; cases this
          refine hH.step hF hT H hI rfl hc0 hfr.tm hs hik hi0 hpre (fun a' w' ι' hH' => ?_)
          have hcl' := closed_set hok hcl hi (by omega)
          have hno' : ∀ j, k ≤ j → (listed.setIfInBounds i true).getD j false = false := fun j hj => by rw [getD_set_ne _ (by omega)]; exact hno j hj
          rcases all_or (listed.setIfInBounds i true) k with hall | hex
          · exact .inr (fin _ _ _ _ hH' hcl' hall hno')
          · exact .inl ⟨⟨ι', hH'⟩, hcl', hno', hex⟩
        · exact wpOpIn_mono (fun _ _ h => .inr h) (tail_step hF hT hok hs hTail hi)
      · intro listed a w hs hIn hall
        rcases hIn with ⟨_, _, _, j, hj, hj0⟩ | hTail
        · rw [hall j (by have := hok.full.1; omega)] at hj0; cases hj0
        · obtain ⟨ι, h1, h2⟩ := tail_end hTail hall
          exact hQ _ _ ι h1 h2
      · have hH := HInv.init (n := ops.size) hc0 hfr.tm hI H
        rcases all_or (Array.replicate ops.size false) k with hall | hex
        · exact .inr (fin _ _ _ _ hH closed_replicate hall (fun _ _ => replicate_getD))
        · exact .inl ⟨⟨ι0, hH⟩, closed_replicate, fun _ _ => replicate_getD, hex⟩
    · cases h
  · cases h

/-! ### A pivot -/
theorem HD.stable (H : HD P T mode ops ms k kk core cf asf frf vf Nf) {i : Nat} {o : Oper} (hik : i < k) (ho : ops[i]? = some o) {t : Tmp} (ht : t ∈ readsX ops.toList o) : ∀ q, i ≤ q → q ≤ kk → (frf q).tm.get t = (frf i).tm.get t
  | 0, h, _ => by have : i = 0 := by omega
                  rw [this]
  | q + 1, h, hq => by
    by_cases e : i = q + 1
    · rw [e]
    · rw [← HD.stable H hik ho ht q (by omega) (by omega)]
      obtain ⟨oq, hoq⟩ := H.op (i := q) (by omega)
      obtain ⟨m, _, hone⟩ := H.one q oq (by omega) hoq
      rw [(frput_get hone.put).1 t, if_neg ?_]
      intro hd
      have := H.ok.lt i q o ho (H.ok.reads i o hik ho t ht q oq (by have := H.le; omega) hoq hd)
      omega

theorem wantedX_stable (H : HD P T mode ops ms k kk core cf asf frf vf Nf) {i : Nat} {o : Oper} (hik : i < k) (ho : ops[i]? = some o) {q : Nat} (hiq : i ≤ q) (hq : q ≤ kk) : wantedX ops.toList o (frf q) = wantedX ops.toList o (frf i) := by
  unfold wantedX
  cases hg : o.guard with
  | none => rfl
  | some g =>
    obtain ⟨j, want⟩ := g
    simp only
    cases hp : nthX j ops.toList with
    | none => rfl
    | some p =>
      simp only
      cases hd : p.dst with
      | none => rfl
      | some d =>
        simp only
        rw [H.stable hik ho (mem_reads_guard hg hp hd) q hiq hq]

theorem Post.still {st st'' : St} {w w2 : World} {ι2 : Ren} (hI : Inv P ι st w) (hp : Post P ι { h := st.h, c := st.c, lo := st.c } w ι2 st'' w2) (hc : st''.c = st.c) : ι2 = ι ∧ Post P ι st w ι st w2 := by
  have hι : ι2 = ι := by
    funext l
    rcases Nat.lt_or_ge l st.c with h | h
    · exact hp.dom l h
    · rw [hI.fresh l h, hp.inv.fresh l (by omega)]
  subst hι
  have hnolo : ∀ l, st.c ≤ l → st.h.get l ≠ none → False := fun l h1 h2 => absurd (hI.lt l h2) (Nat.not_lt.2 h1)
  refine ⟨rfl, Sub.refl _, fun _ _ => rfl, Nat.le_refl _, rfl, fun _ _ => rfl, ⟨⟨fun l o hl => ?_, hI.heap.inj⟩, hI.lt, hI.lo, hI.glo, hI.glob, hI.fresh⟩, ⟨hp.evo.os, hp.evo.tape, hp.evo.output, hp.evo.size, fun b hb _ => hp.evo.same b hb fun l n h1 h2 _ => hnolo l h1 h2⟩, fun l b n h1 h2 h3 => .inr ⟨l, n, h1, h2, h3⟩⟩
  have hlt := hI.lt l (by rw [hl]; simp)
  exact hp.inv.heap.at_ l o ((hp.old l hlt).trans hl)

theorem againX_spec {fr : Fr} {st : St} {m : Nat} : ∀ (l : List Oper) (s : Nat), againX P T mode ops.toList fr st m l s = true → ∀ (i : Nat) (o : Oper), l[i]? = some o → m.testBit (s + i) = false →
    wantedX ops.toList o fr = some false ∨ (wantedX ops.toList o fr = some true ∧ sameResX st fr o.dst (opX P T mode o (fr.eval P) { h := st.h, c := st.c, lo := st.c }) = true)
  | [], s, _, i, o, hi, _ => by simp at hi
  | x :: l, s, h, i, o, hi, hb => by
    rw [againX] at h
    split at h
    · rename_i hx
      cases i with
      | zero =>
        simp only [List.getElem?_cons_zero, Option.some.injEq] at hi
        subst hi
        rw [Nat.add_zero] at hb
        rw [hb] at hx
        simp only at hx
        split at hx
        · rename_i hw; exact .inl hw
        · rename_i hw; exact .inr ⟨hw, hx⟩
        · cases hx
      | succ i =>
        exact againX_spec l (s + 1) h i o (by simpa using hi) (by rw [show s + 1 + i = s + (i + 1) by omega]; exact hb)
    · cases h

theorem sameResX_spec {st : St} {fr : Fr} {d : Option Tmp} {r : Option ORes} (h : sameResX st fr d r = true) : ∃ v st', r = some (.val v st') ∧ st'.c = st.c ∧ ∀ t, d = some t → fr.tm.get t = some v := by
  unfold sameResX at h
  split at h
  · rename_i v st'
    split at h
    · rename_i hc
      refine ⟨v, st', rfl, beqT.1 hc, fun t ht => ?_⟩
      subst ht
      simp only at h
      split at h
      · rename_i u hu
        rw [hu, same_eq _ _ h]
      · cases h
    · cases h
  · cases h

theorem look_mem (m' l : Nat) : ∀ (as : List Laid), look m' as l ≠ none → ∃ d, d ∈ as ∧ m'.testBit d.1 = true
  | [], h => absurd rfl h
  | d :: ds, h => by
    rw [look] at h
    cases e : look m' ds l with
    | some x =>
      obtain ⟨d', h1, h2⟩ := look_mem m' l ds (by rw [e]; simp)
      exact ⟨d', List.mem_cons_of_mem _ h1, h2⟩
    | none =>
      rw [e] at h
      simp only at h
      split at h
      · rename_i hb; exact ⟨d, List.mem_cons_self, hb⟩
      · exact absurd rfl h
/-- Who has laid anything stands in the list. -/
theorem HD.keys (H : HD P T mode ops ms k kk core cf asf frf vf Nf) {j l : Nat} (hj : j < kk) (hN : Nf j l ≠ none) : ∃ d, d ∈ asf kk ∧ d.1 = j := by
  have h : ∀ i, j < i → i ≤ kk → Bc.look (2 ^ j) (asf i) l ≠ none := by
    intro i
    induction i with
    | zero => intro h; omega
    | succ i ih =>
      intro h1 h2
      obtain ⟨o, ho⟩ := H.op (i := i) (by omega)
      obtain ⟨m, _, hone⟩ := H.one i o (by omega) ho
      rw [hone.look]
      by_cases e : i = j
      · subst e
        cases hl : Bc.look (2 ^ i) (asf i) l with
        | some x => simp
        | none => simpa using hN
      · have := ih (by omega) (by omega)
        cases hl : Bc.look (2 ^ j) (asf i) l with
        | some x => simp
        | none => exact absurd hl this
  obtain ⟨d, h1, h2⟩ := look_mem _ _ _ (h kk hj (Nat.le_refl _))
  refine ⟨d, h1, ?_⟩
  rw [Nat.testBit_two_pow] at h2
  exact (of_decide_eq_true h2).symm

/-- Behind the pivot: what has been listed stands in its slots. -/
structure MidI (P : Program) (ops : Array Oper) (ms : List Nat) (p : Nat) (vf : Nat → AV) (ι0 : Ren) (st0 : St) (w0 : World) (a0 : Act) (v : AV) (dp : Option Tmp) (ι : Ren) (st' : St) (listed : Array Bool) (a : Act) (w : World) : Prop where
  size : a.tmps.size = a0.tmps.size
  defs : a.defers = a0.defers
  old : ∀ t, dp ≠ some t → (∀ (j : Nat) (oj : Oper), j < p → ops[j]? = some oj → listed.getD j false = true → oj.dst ≠ some t) → a.tmps[t]? = a0.tmps[t]?
  set : ∀ (j : Nat) (oj : Oper) (d : Tmp), j < p → ops[j]? = some oj → listed.getD j false = true → oj.dst = some d → Rel ι (vf j) (a.tmps.getD d undef)
  piv : ∀ d, dp = some d → Rel ι v (a.tmps.getD d undef)
  post : Post P ι0 st0 w0 ι st' w

/-- The invariant of a region with a pivot. -/
theorem pivot_draw (hF : modeF mode F) (hT : CallOK P T) {Q : Exit → Act → World → Prop} {p : Nat} (hok : RegOk ops ms (p + 1)) {o : Oper} (hop : nthX p ops.toList = some o) {fr fr' : Fr} {st' : St} (h : pivotDrawX P T mode ops.toList ms p o fr st0 = some (fr', st')) (hfr : FrRel ι0 fr a0) (hI : Inv P ι0 st0 w0)
    (hQ : ∀ a' w' ι', FrRel ι' fr' a' → Post P ι0 st0 w0 ι' st' w' → Q .normal a' w') : wpAnyIn F n P .any ops Q ops.size (Array.replicate ops.size false) a0 w0 := by
  have hpo : ops[p]? = some o := by rw [nthX_get] at hop; simpa using hop
  unfold pivotDrawX at h
  split at h
  · rename_i frp as c hhead
    split at h
    · rename_i hh hwith hwant
      obtain ⟨cf, asf, frf, vf, Nf, H, e1, e2, e3, e4, e5⟩ := hd_of hok (Nat.le_succ p) hhead
      subst e2 e3 e4 e5
      have hc0 : st0.c = cf 0 := e1.symm
      unfold pivotResX at h
      split at h
      · rename_i v stp hopx
        split at h
        · rename_i hmall hagain
          split at h
          · rename_i fr2 st2 hput
            obtain ⟨hputv, rfl⟩ := putV_inv hput
            have hbit : ∀ j, ((nthX p ms).getD 0).testBit j = bitOf ms p j := fun _ => rfl
            have hlaid : ∀ j, j < p → (∃ l, Nf j l ≠ none) → bitOf ms p j = true := fun j hj ⟨l, hl⟩ => by
              obtain ⟨d, hd, e⟩ := H.keys hj hl
              have := List.all_eq_true.1 hmall d hd
              rw [← hbit, ← e]; exact this
            -- all are listed: the tail
            have fin : ∀ listed ι w a, MidI P ops ms p vf ι0 st0 w0 a0 v o.dst ι st2 listed a w → Closed ms listed → listed.getD p false = true → (∀ j, j < p → listed.getD j false = true) → (∀ j, p + 1 ≤ j → listed.getD j false = false) → TailI P T mode ops ms (p + 1) ι0 st0 w0 fr' st' listed a w := by
              intro listed ι w a hM hcl hp hall hno
              refine tail_start hok hcl (fun j hj => ?_) hno ⟨⟨fun t x hx => ?_, ?_⟩, ?_⟩ hM.post h
              · rcases Nat.lt_or_ge j p with h | h
                · exact hall j h
                · have : j = p := by omega
                  subst this; exact hp
              · rw [(frput_get hputv).1 t] at hx
                by_cases hd : o.dst = some t
                · rw [if_pos hd] at hx
                  cases hx
                  exact hM.piv t hd
                · rw [if_neg hd] at hx
                  rcases H.frame t x p (Nat.le_refl _) hx with ⟨j, oj, hj, hoj, hdj, rfl⟩ | ⟨hnw, hx0⟩
                  · exact hM.set j oj t hj hoj (hall j hj) hdj
                  · rw [getD_congr (hM.old t hd fun j oj hj hoj _ => hnw j oj hj hoj)]
                    exact (hfr.tm.get t x hx0).mono hM.post.sub
              · rw [(frput_get hputv).2.1, (H.shape p (Nat.le_refl _)).1, hM.size, hfr.tm.size]
              · rw [(frput_get hputv).2.2.1, (H.shape p (Nat.le_refl _)).2, hM.defs]
                exact hfr.ds.mono hM.post.sub
            have hps : p < ops.size := (Array.getElem?_eq_some_iff.1 hpo).1
            have hsetno : ∀ {listed : Array Bool} {i q : Nat}, i < q → (∀ j, q ≤ j → listed.getD j false = false) → ∀ j, q ≤ j → (listed.setIfInBounds i true).getD j false = false := fun hi hno j hj => by
              rw [getD_set_ne _ (by omega)]; exact hno j hj
            refine wpAnyIn_inv hok.edge (fun listed a w => ((∃ ι, HInv ops p cf vf Nf ι0 w0 a0 listed ι w a) ∧ Closed ms listed ∧ (∀ j, p ≤ j → listed.getD j false = false)) ∨
                ((∃ ι, MidI P ops ms p vf ι0 st0 w0 a0 v o.dst ι st2 listed a w) ∧ Closed ms listed ∧ listed.getD p false = true ∧ (∀ j, p + 1 ≤ j → listed.getD j false = false) ∧ ∃ j, j < p ∧ listed.getD j false = false) ∨
                TailI P T mode ops ms (p + 1) ι0 st0 w0 fr' st' listed a w) ?_ ?_ _ _ _ _ (by simp) (by
              have := List.countP_le_length (p := fun b => !b) (l := (Array.replicate ops.size false).toList)
              simpa using this) (.inl ⟨⟨ι0, HInv.init hc0 hfr.tm hI H⟩, closed_replicate, fun _ _ => replicate_getD⟩)
            · intro listed a w i hs hIn hi hi0 hil
              have hsetp : (listed.setIfInBounds p true).getD p false = true := (getD_set_iff (by omega)).2 (.inl rfl)
              rcases hIn with ⟨⟨ι, hH⟩, hcl, hno⟩ | ⟨⟨ι, hM⟩, hcl, hpl, hno, j, hj, hj0⟩ | hTail
              · have hpre := ready_closed hok hcl hi
                have hip : i ≤ p := by
                  rcases Nat.lt_or_ge p i with h | h
                  · have := hpre p (hok.full.2 i (by omega) hil p h)
                    rw [hno p (Nat.le_refl _)] at this; cases this
                  · exact h
                rcases Nat.lt_or_eq_of_le hip with hlt | rfl
                · refine hH.step hF hT H hI rfl hc0 hfr.tm hs hlt hi0 hpre (fun a' w' ι' hH' => .inl ⟨⟨ι', hH'⟩, closed_set hok hcl hi (by omega), hsetno hlt hno⟩)
                · have hup : upto ι (cf i) = ι := by
                    funext l
                    unfold upto
                    split
                    · rfl
                    · rw [hH.high l (by omega)]
                  have hpost := hH.post H hI rfl hc0 hwith (fun j hj _ hN => hpre j (hlaid j hj hN))
                  refine value_sound hF hT hpo hpost.inv (fun t ht x hx => ?_) (.inr ⟨hwant, hopx⟩) (fun u w' ι' hrel hp' => ?_)
                  · have := hH.reads H hI hc0 hfr.tm (Nat.le_refl _) (Nat.lt_succ_self _) hpo hpre ht hx
                    rw [hup] at this
                    exact this
                  · have hM : MidI P ops ms i vf ι0 st0 w0 a0 v o.dst ι' st2 (listed.setIfInBounds i true) (a.put o.dst u) w' := by
                      have hl' : ∀ j, j < i → (listed.setIfInBounds i true).getD j false = true → listed.getD j false = true := fun j hj h => by
                        rw [getD_set_ne _ (by omega)] at h; exact h
                      refine ⟨by rw [put_tmps_size]; exact hH.size, by rw [put_tmps_defers]; exact hH.defs, fun t hd ht => ?_, fun j oj d hj hoj hl hd => ?_, fun d hd => ?_, hpost.trans hp'⟩
                      · rw [put_tmps_ne _ _ _ _ hd]
                        exact hH.old t fun j oj hj hoj hl => ht j oj hj hoj (by rw [getD_set_ne _ (by omega)]; exact hl)
                      · rw [getD_congr (put_tmps_ne a o.dst u d fun e => ?_)]
                        · exact ((hH.set j oj d hj hoj (hl' j hj hl) hd).mono (upto_sub _ _)).mono hp'.sub
                        · have := hok.apart j i oj o d (by omega) (by omega) hoj hpo hd e
                          omega
                      · rw [hd, put_tmps_same _ _ _ ?_]
                        · exact hrel
                        · have := (frput_get hputv).2.2.2 d hd
                          rw [(H.shape i (Nat.le_refl _)).1] at this
                          rw [hH.size, hfr.tm.size]
                          exact this
                    have hcl' := closed_set hok hcl hi (by omega)
                    have hno' := hsetno (Nat.lt_succ_self i) (fun j hj => hno j (by omega))
                    rcases all_or (listed.setIfInBounds i true) i with hall | hex
                    · exact .inr (.inr (fin _ _ _ _ hM hcl' hsetp hall hno'))
                    · exact .inr (.inl ⟨⟨ι', hM⟩, hcl', hsetp, hno', hex⟩)
              · have hpre := ready_closed hok hcl hi
                have hip : i < p := by
                  rcases Nat.lt_or_ge i p with h | h
                  · exact h
                  · rcases Nat.lt_or_eq_of_le h with h | rfl
                    · have := hpre j (hok.full.2 i (by omega) hil j (by omega))
                      rw [hj0] at this; cases this
                    · rw [hpl] at hi0; cases hi0
                obtain ⟨oi, hoi⟩ := H.op hip
                have hnb : ((nthX p ms).getD 0).testBit (0 + i) = false := by
                  rw [Nat.zero_add]
                  cases hb : ((nthX p ms).getD 0).testBit i with
                  | false => rfl
                  | true =>
                    have := hcl p i hpl hb
                    rw [hi0] at this; cases this
                obtain ⟨mi, hmi, hone⟩ := H.one i oi hip hoi
                have hspec := againX_spec _ _ hagain i oi (by rw [List.getElem?_take_of_lt hip]; simpa using hoi) hnb
                have hst := wantedX_stable H (i := i) (o := oi) (by omega) hoi (q := p) (by omega) (Nat.le_refl _)
                have hIs : Inv P ι { h := st2.h, c := st2.c, lo := st2.c } w := ⟨hM.post.inv.heap, hM.post.inv.lt, Nat.le_refl _, Nat.le_trans hM.post.inv.glo hM.post.inv.lo, hM.post.inv.glob, hM.post.inv.fresh⟩
                -- the value is the head's
                have hval : ∃ st'', st''.c = st2.c ∧ ((wantedX ops.toList oi (frf p) = some false ∧ vf i = undefA ∧ st'' = { h := st2.h, c := st2.c, lo := st2.c }) ∨ ∃ vi, (∀ t, oi.dst = some t → vi = vf i) ∧ (wantedX ops.toList oi (frf p) = some true ∧ opX P T mode oi ((frf p).eval P) { h := st2.h, c := st2.c, lo := st2.c } = some (.val vi st''))) := by
                  rcases hspec with hw | ⟨hw, hsame⟩
                  · refine ⟨{ h := st2.h, c := st2.c, lo := st2.c }, rfl, .inl ⟨hw, ?_, rfl⟩⟩
                    rw [hst] at hw
                    rcases hone.run with ⟨_, hv, _⟩ | ⟨hw', _⟩
                    · exact hv
                    · rw [hw] at hw'; cases hw'
                  · obtain ⟨vi, st'', hr, hc, hslot⟩ := sameResX_spec hsame
                    refine ⟨st'', hc, .inr ⟨vi, fun t ht => ?_, hw, hr⟩⟩
                    have h1 := hslot t ht
                    rcases H.frame t vi p (Nat.le_refl _) h1 with ⟨j', oj, hj', hoj, hd, hx⟩ | ⟨hnw, _⟩
                    · have := hok.apart j' i oj oi t (by omega) (by omega) hoj hoi hd ht
                      subst this; exact hx
                    · exact absurd ht (hnw i oi hip hoi)
                obtain ⟨st'', hc'', hval⟩ := hval
                have hreads : ∀ t, t ∈ readsX ops.toList oi → ∀ x, (frf p).tm.get t = some x → Rel ι x (a.tmps.getD t undef) := by
                  intro t ht x hx
                  rcases H.frame t x p (Nat.le_refl _) hx with ⟨j', oj, hj', hoj, hd, rfl⟩ | ⟨hnw, hx0⟩
                  · exact hM.set j' oj t hj' hoj (hpre j' (hok.reads i oi (by omega) hoi t ht j' oj (by omega) hoj hd)) hd
                  · rw [getD_congr (hM.old t (fun hd => ?_) fun j' oj hj' hoj _ => hnw j' oj hj' hoj)]
                    · exact (hfr.tm.get t x hx0).mono hM.post.sub
                    · have := hok.lt i p oi hoi (hok.reads i oi (by omega) hoi t ht p o (by omega) hpo hd)
                      omega
                have next : ∀ vi u w' ι', (∀ t, oi.dst = some t → vi = vf i) → Rel ι' vi u → Post P ι { h := st2.h, c := st2.c, lo := st2.c } w ι' st'' w' → MidI P ops ms p vf ι0 st0 w0 a0 v o.dst ι st2 (listed.setIfInBounds i true) (a.put oi.dst u) w' := by
                  intro vi u w' ι' hvi hrel hp'
                  obtain ⟨rfl, hstill⟩ := Post.still hM.post.inv hp' hc''
                  have hset := fun j => getD_set_iff (j := j) (listed := listed) (i := i) (by omega)
                  refine ⟨by rw [put_tmps_size]; exact hM.size, by rw [put_tmps_defers]; exact hM.defs, fun t hd ht => ?_, fun j' oj d hj' hoj hl hd => ?_, fun d hd => ?_, hM.post.trans hstill⟩
                  · rw [put_tmps_ne _ _ _ _ (ht i oi hip hoi ((hset i).2 (.inl rfl)))]
                    exact hM.old t hd fun j' oj hj' hoj hl => ht j' oj hj' hoj ((hset j').2 (.inr hl))
                  · rcases (hset j').1 hl with rfl | hl2
                    · rw [hoi] at hoj
                      cases hoj
                      rw [hd, put_tmps_same _ _ _ (by rw [hM.size, hfr.tm.size]; exact H.slot hip hoi hd), ← hvi d hd]
                      exact hrel
                    · rw [getD_congr (put_tmps_ne a oi.dst u d fun e => ?_)]
                      · exact hM.set j' oj d hj' hoj hl2 hd
                      · have := hok.apart j' i oj oi d (by omega) (by omega) hoj hoi hd e
                        rw [this, hi0] at hl2; cases hl2
                  · rw [getD_congr (put_tmps_ne a oi.dst u d fun e => ?_)]
                    · exact hM.piv d hd
                    · have := hok.apart i p oi o d (by omega) (by omega) hoi hpo e hd
                      omega
                have step : wpOpIn F n P ops Q i (fun a' w' => MidI P ops ms p vf ι0 st0 w0 a0 v o.dst ι st2 (listed.setIfInBounds i true) a' w') a w := by
                  rcases hval with ⟨h1, h2, h3⟩ | ⟨vi, hvi, h1, h2⟩
                  · refine value_sound (v := undefA) (st' := st'') hF hT hoi hIs hreads (.inl ⟨h1, rfl, h3⟩) (fun u w' ι' hrel hp' => next undefA u w' ι' (fun _ _ => h2.symm) hrel hp')
                  · exact value_sound hF hT hoi hIs hreads (.inr ⟨h1, h2⟩) (fun u w' ι' hrel hp' => next vi u w' ι' hvi hrel hp')
                refine wpOpIn_mono (fun a' w' hM' => ?_) step
                have hcl' := closed_set hok hcl hi (by omega)
                have hpl' : (listed.setIfInBounds i true).getD p false = true := getD_set_true hpl
                have hno' := hsetno (show i < p + 1 by omega) hno
                rcases all_or (listed.setIfInBounds i true) p with hall | hex
                · exact .inr (.inr (fin _ _ _ _ hM' hcl' hpl' hall hno'))
                · exact .inr (.inl ⟨⟨ι, hM'⟩, hcl', hpl', hno', hex⟩)
              · exact wpOpIn_mono (fun _ _ h => .inr (.inr h)) (tail_step hF hT hok hs hTail hi)
            · intro listed a w hs hIn hall
              rcases hIn with ⟨_, _, hno⟩ | ⟨_, _, _, _, j, hj, hj0⟩ | hTail
              · have := hall p hps
                rw [hno p (Nat.le_refl _)] at this; cases this
              · rw [hall j (by omega)] at hj0; cases hj0
              · obtain ⟨ι, h1, h2⟩ := tail_end hTail hall
                exact hQ _ _ ι h1 h2
          · cases h
        · cases h
      · cases h
    · cases h
  · cases h

/-- A region that draws its order. -/
theorem draw_sound (hm : P.follows .mixedOrders = true) (hF : modeF mode F) (hT : CallOK P T) {Q : Exit → Act → World → Prop} {id : Nat} {fr fr' : Fr} {st st' : St} (h : drawX P T mode ops.toList fr st = some (fr', st')) (hfr : FrRel ι fr a) (hI : Inv P ι st w)
    (hQ : ∀ a' w' ι', FrRel ι' fr' a' → Post P ι st w ι' st' w' → Q .normal a' w') : (Code.region id ops true).wpIn F n P Q a w := by
  refine wpIn_region_any hm ?_
  have hI' : Inv P ι st { w with drawn := w.drawn + 1 } := Inv.alike hI rfl
  have hp0 : Post P ι st w ι st { w with drawn := w.drawn + 1 } := Post.alike hI ⟨rfl, rfl, rfl, rfl⟩
  have hQ' : ∀ a' w' ι', FrRel ι' fr' a' → Post P ι st { w with drawn := w.drawn + 1 } ι' st' w' → Q .normal a' w' := fun a' w' ι' h1 h2 => hQ a' w' ι' h1 (hp0.trans h2)
  unfold drawX at h
  split at h
  · rename_i hreg
    have hok := regOk_of rfl hreg
    unfold drawOkX at h
    split at h
    · rename_i k hk0
      rw [hk0] at hok
      refine wpAnyIn_inv hok.edge (TailI P T mode ops (masksX ops.toList []) 0 ι st { w with drawn := w.drawn + 1 } fr' st') ?_ ?_ _ _ _ _ (by simp) (by
        have := List.countP_le_length (p := fun b => !b) (l := (Array.replicate ops.size false).toList)
        simpa using this) ?_
      · intro listed a w i hs hIn hi _ _
        exact tail_step hF hT hok hs hIn hi
      · intro listed a w _ hIn hall
        obtain ⟨ι', h1, h2⟩ := tail_end hIn hall
        exact hQ' _ _ ι' h1 h2
      · exact tail_start hok closed_replicate (fun j hj => absurd hj (Nat.not_lt_zero _)) (fun _ _ => replicate_getD) hfr (Post.refl hI') (by simpa using h)
    · rename_i k p hk
      rw [hk] at hok
      split at h
      · cases h
      · rename_i o hop
        split at h
        · exact plain_draw hF hT hok h hfr hI' hQ'
        · exact pivot_draw hF hT hok hop h hfr hI' hQ'
  · cases h
end
end Go.Proofs.Bc
