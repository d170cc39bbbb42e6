/- Regions that draw their order: the head, in whatever order. -/
import Derived.Test.YtglbbdailankpaaGreatDoorXQ
namespace Go.Proofs.Bc
open Go
variable {P : Program}

/-! ### Asked of the region's text -/
structure RegOk (ops : Array Oper) (ms : List Nat) (k : Nat) : Prop where
  edge : ∀ (i : Nat) (o : Oper), ops[i]? = some o → ∀ e, e ∈ o.after.toList → Region.binds .any e = true → e.on < i
  reads : ∀ (i : Nat) (o : Oper), i < k → ops[i]? = some o → ∀ t, t ∈ readsX ops.toList o → ∀ (j : Nat) (oj : Oper), j < k → ops[j]? = some oj → oj.dst = some t → bitOf ms i j = true
  apart : ∀ (i j : Nat) (oi oj : Oper) (d : Tmp), i < k → j < k → ops[i]? = some oi → ops[j]? = some oj → oi.dst = some d → oj.dst = some d → i = j
  mask : ∀ (i : Nat) (o : Oper), ops[i]? = some o → ∀ j, bitOf ms i j = true → ∃ e, e ∈ o.after.toList ∧ Region.binds .any e = true ∧ (j = e.on ∨ bitOf ms e.on j = true)
  masks : ∀ (i : Nat), i < ops.size → ∃ m, nthX i ms = some m
  full : k ≤ ops.size ∧ ∀ i, k ≤ i → i < ops.size → ∀ j, j < i → bitOf ms i j = true

theorem filterMap_apart : ∀ (l : List Oper) (i j : Nat) (oi oj : Oper) (d : Tmp), (l.filterMap (·.dst)).Nodup → l[i]? = some oi → l[j]? = some oj → oi.dst = some d → oj.dst = some d → i = j
  | [], i, j, oi, oj, d, _, h, _, _, _ => by simp at h
  | u :: l, i, j, oi, oj, d, hn, hi, hj, di, dj => by
    have hn' : (l.filterMap (·.dst)).Nodup := by rw [List.filterMap_cons] at hn; split at hn <;> simp_all
    have hmem : ∀ (q : Nat) (oq : Oper), l[q]? = some oq → oq.dst = some d → d ∈ l.filterMap (·.dst) := fun q oq hq hd => List.mem_filterMap.2 ⟨oq, List.mem_of_getElem? hq, hd⟩
    cases i with
    | zero =>
      cases j with
      | zero => rfl
      | succ j =>
        simp only [List.getElem?_cons_zero, Option.some.injEq, List.getElem?_cons_succ] at hi hj
        subst hi
        rw [List.filterMap_cons, di] at hn
        exact absurd (hmem j oj hj dj) (List.nodup_cons.1 hn).1
    | succ i =>
      cases j with
      | zero =>
        simp only [List.getElem?_cons_zero, Option.some.injEq, List.getElem?_cons_succ] at hi hj
        subst hj
        rw [List.filterMap_cons, dj] at hn
        exact absurd (hmem i oi hi di) (List.nodup_cons.1 hn).1
      | succ j =>
        simp only [List.getElem?_cons_succ] at hi hj
        exact congrArg (· + 1) (filterMap_apart l i j oi oj d hn' hi hj di dj)

theorem regOk_of {ops : Array Oper} {k : Nat} (hk : fullX (masksX ops.toList []) ops.toList.length = k) (h : regionOk ops.toList (masksX ops.toList []) k = true) : RegOk ops (masksX ops.toList []) k := by
  obtain ⟨hlen, _, hspec⟩ := masksX_spec ops.toList []
  obtain ⟨f1, f2⟩ := fullX_spec _ _ _ hk
  simp only [List.length_nil, Nat.zero_add] at hlen hspec
  unfold regionOk at h
  simp only [Bool.and_eq_true, decide_eq_true_eq] at h
  obtain ⟨⟨h1, h2⟩, h3⟩ := h
  have hin : ∀ {i : Nat} {o : Oper}, ops[i]? = some o → (o, i) ∈ ops.toList.zipIdx := fun {i o} hi => by
    rw [List.mem_zipIdx_iff_getElem?]; simpa using hi
  have hink : ∀ {i : Nat} {o : Oper}, i < k → ops[i]? = some o → (o, i) ∈ (ops.toList.take k).zipIdx := fun {i o} hik hi => by
    rw [List.mem_zipIdx_iff_getElem?, List.getElem?_take_of_lt hik]; simpa using hi
  refine ⟨fun i o hi e he hb => ?_, fun i o hik hi t ht j oj hjk hj hd => ?_, fun i j oi oj d hik hjk hi hj di dj => ?_, fun i o hi j hj => ?_, fun i hi => ?_, ⟨by simpa using f1, fun i h1 h2 => f2 i h1 (by simpa using h2)⟩⟩
  · have := List.all_eq_true.1 h1 _ (hin hi)
    simp only at this
    have := List.all_eq_true.1 this e he
    simp only [hb, Bool.not_true, Bool.false_or] at this
    exact bltT.1 this
  · have := List.all_eq_true.1 h2 _ (hink hik hi)
    simp only [Bool.and_eq_true] at this
    have := List.all_eq_true.1 this.2 t ht
    have := List.all_eq_true.1 this _ (hink hjk hj)
    simp only [hd, decide_true, Bool.not_true, Bool.false_or] at this
    exact this
  · exact filterMap_apart (ops.toList.take k) i j oi oj d h3 (by rw [List.getElem?_take_of_lt hik]; simpa using hi) (by rw [List.getElem?_take_of_lt hjk]; simpa using hj) di dj
  · obtain ⟨e, he, hb, hh⟩ := hspec i o (by simpa using hi) j hj
    exact ⟨e, he, hb, hh.imp id (·.2)⟩
  · have : i < (masksX ops.toList []).length := by rw [hlen]; simpa using hi
    exact ⟨_, by rw [nthX_get, List.getElem?_eq_getElem this]⟩

theorem RegOk.lt {ops : Array Oper} {ms : List Nat} {k : Nat} (h : RegOk ops ms k) : ∀ (i j : Nat) (o : Oper), ops[i]? = some o → bitOf ms i j = true → j < i := by
  intro i
  induction i using Nat.strongRecOn with
  | _ i ih =>
    intro j o ho hb
    obtain ⟨e, he, hbe, hj⟩ := h.mask i o ho j hb
    have hlt := h.edge i o ho e he hbe
    rcases hj with rfl | hj
    · exact hlt
    · have hi : i < ops.size := (Array.getElem?_eq_some_iff.1 ho).1
      have := ih e.on hlt j _ (Array.getElem?_eq_getElem (by omega)) hj
      omega

/-- Whoever is listed has all that he waits for listed. -/
def Closed (ms : List Nat) (listed : Array Bool) : Prop := ∀ i j, listed.getD i false = true → bitOf ms i j = true → listed.getD j false = true
theorem ready_closed {ops : Array Oper} {ms : List Nat} {k i : Nat} {listed : Array Bool} (h : RegOk ops ms k) (hc : Closed ms listed) (hi : i ∈ Region.ready .any ops listed) : ∀ j, bitOf ms i j = true → listed.getD j false = true := by
  obtain ⟨_, o, ho, he⟩ := mem_ready.1 hi
  intro j hj
  obtain ⟨e, hem, hb, hh⟩ := h.mask i o ho j hj
  have hl := he e (Array.mem_toList_iff.1 hem) hb
  rcases hh with rfl | hh
  · exact hl
  · exact hc _ _ hl hh
theorem getD_set_iff {listed : Array Bool} {i j : Nat} (hi : i < listed.size) : (listed.setIfInBounds i true).getD j false = true ↔ (j = i ∨ listed.getD j false = true) := by
  by_cases hji : j = i
  · subst hji; rw [Array.getD_eq_getD_getElem?]; simp [hi]
  · rw [getD_set_ne _ (Ne.symm hji)]; simp [hji]
theorem closed_set {ops : Array Oper} {ms : List Nat} {k i : Nat} {listed : Array Bool} (h : RegOk ops ms k) (hc : Closed ms listed) (hi : i ∈ Region.ready .any ops listed) (hs : i < listed.size) : Closed ms (listed.setIfInBounds i true) := by
  intro a b ha hb
  rw [getD_set_iff hs] at ha ⊢
  rcases ha with rfl | ha
  · exact .inr (ready_closed h hc hi b hb)
  · exact .inr (hc a b ha hb)

theorem frput_get {fr fr' : Fr} {d : Option Tmp} {v : AV} (h : fr.put d v = some fr') : (∀ t, fr'.tm.get t = if d = some t then some v else fr.tm.get t) ∧ fr'.nt = fr.nt ∧ fr'.ds = fr.ds ∧ ∀ t, d = some t → t < fr.nt := by
  unfold Fr.put at h
  split at h
  · simp only [Option.some.injEq] at h
    subst h
    exact ⟨fun t => by simp, rfl, rfl, fun t h => by cases h⟩
  · rename_i d
    split at h
    · rename_i hlt
      split at h
      · rename_i tm hp
        simp only [Option.some.injEq] at h
        subst h
        refine ⟨fun t => ?_, rfl, rfl, fun t e => by cases e; exact bltT.1 hlt⟩
        simp only [Option.some.injEq]
        rw [Tr.get_put _ _ _ _ _ hp]
        by_cases e : t = d
        · subst e; simp
        · rw [if_neg e, if_neg (Ne.symm e)]
      · cases h
    · cases h

/-- The head's data. -/
structure HD (P : Program) (T : Tools) (mode : Nat) (ops : Array Oper) (ms : List Nat) (k kk : Nat) (core : Tr AObj) (cf : Nat → Nat) (asf : Nat → List Laid) (frf : Nat → Fr) (vf : Nat → AV) (Nf : Nat → Nat → Option AObj) : Prop where
  ok : RegOk ops ms k
  le : kk ≤ k
  as0 : asf 0 = []
  one : ∀ (i : Nat) (o : Oper), i < kk → ops[i]? = some o → ∃ m, nthX i ms = some m ∧ HeadOne P T mode ops.toList core o i m (cf i) (asf i) (frf i) (frf (i + 1)) (asf (i + 1)) (cf (i + 1)) (vf i) (Nf i)

section
variable {T : Tools} {mode : Nat} {ops : Array Oper} {ms : List Nat} {k kk : Nat} {core : Tr AObj} {cf : Nat → Nat} {asf : Nat → List Laid} {frf : Nat → Fr} {vf : Nat → AV} {Nf : Nat → Nat → Option AObj}

theorem HD.op (h : HD P T mode ops ms k kk core cf asf frf vf Nf) {i : Nat} (hi : i < kk) : ∃ o, ops[i]? = some o := ⟨_, Array.getElem?_eq_getElem (by have := h.ok.full.1; have := h.le; omega)⟩

theorem HD.mono (h : HD P T mode ops ms k kk core cf asf frf vf Nf) {i j : Nat} (hij : i ≤ j) (hj : j ≤ kk) : cf i ≤ cf j := by
  induction j with
  | zero => have : i = 0 := by omega
            subst this; exact Nat.le_refl _
  | succ j ih =>
    by_cases e : i = j + 1
    · subst e; exact Nat.le_refl _
    · obtain ⟨o, ho⟩ := h.op (i := j) (by omega)
      obtain ⟨m, _, hone⟩ := h.one j o (by omega) ho
      exact Nat.le_trans (ih (by omega) (by omega)) hone.le

theorem HD.look (h : HD P T mode ops ms k kk core cf asf frf vf Nf) (m' l : Nat) : ∀ (i : Nat), i ≤ kk → ∀ o, Bc.look m' (asf i) l = some o → ∃ j, j < i ∧ m'.testBit j = true ∧ Nf j l = some o
  | 0, _, o, e => by rw [h.as0] at e; simp [Bc.look] at e
  | i + 1, hi, o, e => by
    obtain ⟨oi, ho⟩ := h.op (i := i) (by omega)
    obtain ⟨m, _, hone⟩ := h.one i oi (by omega) ho
    rw [hone.look] at e
    split at e
    · rename_i x hx
      obtain ⟨j, hj, hb, hN⟩ := HD.look h m' l i (by omega) x hx
      simp only [Option.some.injEq] at e
      exact ⟨j, by omega, hb, e ▸ hN⟩
    · split at e
      · rename_i hb
        exact ⟨i, by omega, hb, e⟩
      · cases e

theorem HD.range (h : HD P T mode ops ms k kk core cf asf frf vf Nf) {j l : Nat} (hj : j < kk) (hN : Nf j l ≠ none) : cf j ≤ l ∧ l < cf (j + 1) := by
  obtain ⟨o, ho⟩ := h.op hj
  obtain ⟨m, _, hone⟩ := h.one j o hj ho
  exact hone.out l hN

/-- What the frame holds after the first i. -/
theorem HD.frame (h : HD P T mode ops ms k kk core cf asf frf vf Nf) (t : Nat) (x : AV) : ∀ (i : Nat), i ≤ kk → (frf i).tm.get t = some x →
    (∃ j oj, j < i ∧ ops[j]? = some oj ∧ oj.dst = some t ∧ x = vf j) ∨ ((∀ j oj, j < i → ops[j]? = some oj → oj.dst ≠ some t) ∧ (frf 0).tm.get t = some x)
  | 0, _, e => .inr ⟨fun j _ hj => absurd hj (Nat.not_lt_zero _), e⟩
  | i + 1, hi, e => by
    obtain ⟨o, ho⟩ := h.op (i := i) (by omega)
    obtain ⟨m, _, hone⟩ := h.one i o (by omega) ho
    rw [(frput_get hone.put).1 t] at e
    by_cases hd : o.dst = some t
    · rw [if_pos hd] at e
      simp only [Option.some.injEq] at e
      exact .inl ⟨i, o, by omega, ho, hd, e.symm⟩
    · rw [if_neg hd] at e
      rcases HD.frame h t x i (by omega) e with ⟨j, oj, hj, hoj, hdj, hx⟩ | ⟨hno, h0⟩
      · exact .inl ⟨j, oj, by omega, hoj, hdj, hx⟩
      · refine .inr ⟨fun j oj hj hoj => ?_, h0⟩
        rcases Nat.lt_or_ge j i with hlt | hge
        · exact hno j oj hlt hoj
        · have : j = i := by omega
          subst this
          rw [ho] at hoj
          cases hoj
          exact hd
theorem HD.shape (h : HD P T mode ops ms k kk core cf asf frf vf Nf) : ∀ (i : Nat), i ≤ kk → (frf i).nt = (frf 0).nt ∧ (frf i).ds = (frf 0).ds
  | 0, _ => ⟨rfl, rfl⟩
  | i + 1, hi => by
    obtain ⟨o, ho⟩ := h.op (i := i) (by omega)
    obtain ⟨m, _, hone⟩ := h.one i o (by omega) ho
    obtain ⟨_, h1, h2, _⟩ := frput_get hone.put
    obtain ⟨h3, h4⟩ := HD.shape h i (by omega)
    exact ⟨h1.trans h3, h2.trans h4⟩
theorem HD.slot (h : HD P T mode ops ms k kk core cf asf frf vf Nf) {i : Nat} {o : Oper} {d : Tmp} (hi : i < kk) (ho : ops[i]? = some o) (hd : o.dst = some d) : d < (frf 0).nt := by
  obtain ⟨m, _, hone⟩ := h.one i o hi ho
  have := (frput_get hone.put).2.2.2 d hd
  rw [(h.shape i (by omega)).1] at this
  exact this

/-- Between two operations of the head. -/
structure HInv (ops : Array Oper) (kk : Nat) (cf : Nat → Nat) (vf : Nat → AV) (Nf : Nat → Nat → Option AObj) (ι0 : Ren) (w0 : World) (a0 : Act) (listed : Array Bool) (ι : Ren) (w : World) (a : Act) : Prop where
  size : a.tmps.size = a0.tmps.size
  defs : a.defers = a0.defers
  old : ∀ t, (∀ (j : Nat) (oj : Oper), j < kk → ops[j]? = some oj → listed.getD j false = true → oj.dst ≠ some t) → a.tmps[t]? = a0.tmps[t]?
  set : ∀ (j : Nat) (oj : Oper) (d : Tmp), j < kk → ops[j]? = some oj → listed.getD j false = true → oj.dst = some d → Rel (upto ι (cf (j + 1))) (vf j) (a.tmps.getD d undef)
  low : ∀ l, l < cf 0 → ι l = ι0 l
  unl : ∀ j, j < kk → listed.getD j false = false → ∀ l, cf j ≤ l → l < cf (j + 1) → ι l = none
  high : ∀ l, cf kk ≤ l → ι l = none
  os : w.os = w0.os
  tape : w.tape = w0.tape
  output : w.output = w0.output
  grow : w0.heap.size ≤ w.heap.size
  same : ∀ b, b < w0.heap.size → w.heap[b]? = w0.heap[b]?
  laid : ∀ j, j < kk → listed.getD j false = true → ∀ l o, Nf j l = some o → ∃ b n ob, ι l = some (b, n) ∧ w0.heap.size ≤ b ∧ w.heap[b]? = some ob ∧ ORel (upto ι (cf (j + 1))) n o ob ∧ unfrozen ob
  inj : ∀ i j l m b n n', i < kk → j < kk → listed.getD i false = true → listed.getD j false = true → Nf i l ≠ none → Nf j m ≠ none → ι l = some (b, n) → ι m = some (b, n') → l = m

variable {ι0 ι : Ren} {w0 w : World} {a0 a : Act} {st0 : St} {listed : Array Bool}

/-- The heap with what a listed few have laid. -/
theorem HInv.sub (H : HD P T mode ops ms k kk core cf asf frf vf Nf) (hI : HInv ops kk cf vf Nf ι0 w0 a0 listed ι w a) (h0 : Inv P ι0 st0 w0) (hc : st0.h = core) (hc0 : st0.c = cf 0) {i m' lo : Nat} (hi : i ≤ kk) {h : Tr AObj} (hw : withX m' (asf i) core = some h)
    (hm : ∀ j, j < i → m'.testBit j = true → (∃ l, Nf j l ≠ none) → listed.getD j false = true) (hlo : P.globals.size ≤ lo) (hlo' : lo ≤ cf i) : Inv P (upto ι (cf i)) { h := h, c := cf i, lo := lo } w := by
  have hci : cf 0 ≤ cf i := H.mono (Nat.zero_le _) hi
  have hsub0 : Sub ι0 (upto ι (cf i)) := fun l x e => by
    have hl : l < cf 0 := by
      rcases Nat.lt_or_ge l (cf 0) with h | h
      · exact h
      · rw [h0.fresh l (by rw [hc0]; exact h)] at e; cases e
    unfold upto
    rw [if_pos (by omega), hI.low l hl]
    exact e
  -- what lies at a label
  have key : ∀ l o, h.get l = some o → (core.get l = some o ∧ l < cf 0) ∨ (∃ j, j < i ∧ listed.getD j false = true ∧ Nf j l = some o ∧ cf 0 ≤ l ∧ l < cf i) := by
    intro l o e
    rw [withX_get _ _ _ _ hw l] at e
    split at e
    · rename_i x hx
      simp only [Option.some.injEq] at e
      subst e
      obtain ⟨j, hj, hb, hN⟩ := H.look m' l i hi x hx
      have hr := H.range (j := j) (l := l) (by omega) (by rw [hN]; simp)
      have h1 := H.mono (i := 0) (j := j) (Nat.zero_le _) (by omega)
      have h2 := H.mono (i := j + 1) (j := i) (by omega) hi
      exact .inr ⟨j, hj, hm j hj hb ⟨l, by rw [hN]; simp⟩, hN, by omega, by omega⟩
    · refine .inl ⟨e, ?_⟩
      have := h0.lt l (by rw [hc, e]; simp)
      rw [← hc0]; exact this
  refine ⟨⟨fun l o e => ?_, fun l m b n n' hl hm' hil him => ?_⟩, fun l hl => ?_, hlo', hlo, fun g hg => ?_, fun l hl => ?_⟩
  · rcases key l o e with ⟨h1, h2⟩ | ⟨j, hj, hlj, hN, h1, h2⟩
    · obtain ⟨b, n, ob, k1, k2, k3, k4⟩ := h0.heap.at_ l o (by rw [hc]; exact h1)
      exact ⟨b, n, ob, hsub0 _ _ k1, (hI.same b (Array.getElem?_eq_some_iff.1 k2).1).trans k2, k3.mono hsub0, k4⟩
    · obtain ⟨b, n, ob, k1, _, k2, k3, k4⟩ := hI.laid j (by omega) hlj l o hN
      have hji := H.mono (i := j + 1) (j := i) (by omega) hi
      refine ⟨b, n, ob, ?_, k2, k3.mono (upto_mono hji), fun _ => k4⟩
      unfold upto
      rw [if_pos h2]; exact k1
  · have hl1 : upto ι (cf i) l = ι l ∨ upto ι (cf i) l = none := by unfold upto; split <;> simp
    have hil' : ι l = some (b, n) := upto_sub ι (cf i) l _ hil
    have him' : ι m = some (b, n') := upto_sub ι (cf i) m _ him
    cases el : h.get l with
    | none => exact absurd el hl
    | some ol =>
      cases em : h.get m with
      | none => exact absurd em hm'
      | some om =>
        have blk : ∀ {l b n o}, core.get l = some o → l < cf 0 → ι l = some (b, n) → ι0 l = some (b, n) ∧ b < w0.heap.size := by
          intro l b n o e hl hi
          rw [hI.low l hl] at hi
          exact ⟨hi, h0.heap.lt_size (by rw [hc, e]; simp) hi⟩
        rcases key l ol el with ⟨h1, h2⟩ | ⟨j, hj, hlj, hN, h1, h2⟩
        · obtain ⟨k1, k2⟩ := blk h1 h2 hil'
          rcases key m om em with ⟨h3, h4⟩ | ⟨j', hj', hlj', hN', h3, h4⟩
          · obtain ⟨k3, k4⟩ := blk h3 h4 him'
            exact h0.heap.inj l m b n n' (by rw [hc, h1]; simp) (by rw [hc, h3]; simp) k1 k3
          · obtain ⟨b2, n2, ob, q1, q2, _⟩ := hI.laid j' (by omega) hlj' m om hN'
            rw [him'] at q1
            cases q1
            omega
        · obtain ⟨b2, n2, ob, q1, q2, _⟩ := hI.laid j (by omega) hlj l ol hN
          rw [hil'] at q1
          cases q1
          rcases key m om em with ⟨h3, h4⟩ | ⟨j', hj', hlj', hN', h3, h4⟩
          · obtain ⟨k3, k4⟩ := blk h3 h4 him'
            omega
          · exact hI.inj j j' l m b n n' (by omega) (by omega) hlj hlj' (by rw [hN]; simp) (by rw [hN']; simp) hil' him'
  · cases el : h.get l with
    | none => exact absurd el hl
    | some ol =>
      rcases key l ol el with ⟨h1, h2⟩ | ⟨j, hj, hlj, hN, h1, h2⟩
      · show l < cf i; omega
      · exact h2
  · obtain ⟨n, hn⟩ := h0.glob g hg
    exact ⟨n, hsub0 _ _ hn⟩
  · unfold upto
    rw [if_neg (by show ¬ l < cf i; have : cf i ≤ l := hl; omega)]
end
end Go.Proofs.Bc
