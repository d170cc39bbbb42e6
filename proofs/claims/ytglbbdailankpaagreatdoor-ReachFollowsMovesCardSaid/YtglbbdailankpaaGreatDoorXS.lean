/- Regions that draw their order: one operation of the head; the schedule. -/
import Derived.Test.YtglbbdailankpaaGreatDoorXR
namespace Go.Proofs.Bc
open Go
variable {P : Program}

/-! ### Whatever the schedule -/
theorem wpAnyIn_inv {F : Fence} {n : Nat} {ops : Array Oper} {Q : Exit → Act → World → Prop} (hedge : ∀ (i : Nat) (o : Oper), ops[i]? = some o → ∀ e, e ∈ o.after.toList → Region.binds .any e = true → e.on < i)
    (I : Array Bool → Act → World → Prop)
    (hstep : ∀ listed a w i, listed.size = ops.size → I listed a w → i ∈ Region.ready .any ops listed → listed.getD i false = false → i < ops.size → wpOpIn F n P ops Q i (I (listed.setIfInBounds i true)) a w)
    (hend : ∀ listed a w, listed.size = ops.size → I listed a w → (∀ j, j < ops.size → listed.getD j false = true) → Q .normal a w) :
    ∀ (fuel : Nat) (listed : Array Bool) (a : Act) (w : World), listed.size = ops.size → listed.toList.countP (fun b => !b) ≤ fuel → I listed a w → wpAnyIn F n P .any ops Q fuel listed a w := by
  have hgetD : ∀ {listed : Array Bool} {i : Nat}, listed.size = ops.size → i < ops.size → listed.getD i true = listed.getD i false := fun {listed i} hs hi => by
    rw [Array.getD_eq_getD_getElem?, Array.getD_eq_getD_getElem?, Array.getElem?_eq_getElem (by omega)]; rfl
  have hnone : ∀ {listed : Array Bool}, listed.size = ops.size → Region.ready .any ops listed = [] → ∀ j, j < ops.size → listed.getD j false = true := by
    intro listed hs hr j
    induction j using Nat.strongRecOn with
    | _ j ih =>
      intro hj
      cases hc : listed.getD j false with
      | true => rfl
      | false =>
        have : j ∈ Region.ready .any ops listed := mem_ready.2 ⟨by rw [hgetD hs hj]; exact hc, ops[j], Array.getElem?_eq_getElem hj, fun e he hb => by
          have := hedge j _ (Array.getElem?_eq_getElem hj) e (Array.mem_toList_iff.2 he) hb
          exact ih e.on this (by omega)⟩
        rw [hr] at this
        cases this
  intro fuel
  induction fuel with
  | zero =>
    intro listed a w hs hf hI
    have hall : ∀ j, j < ops.size → listed.getD j false = true := fun j hj => by
      have h0 : listed.toList.countP (fun b => !b) = 0 := by omega
      rw [List.countP_eq_zero] at h0
      have := h0 listed[j] (Array.mem_toList_iff.2 (Array.getElem_mem (by omega)))
      rw [Array.getD_eq_getD_getElem?, Array.getElem?_eq_getElem (by omega)]
      simpa using this
    refine ⟨?_, hend _ _ _ hs hI hall⟩
    rw [List.eq_nil_iff_forall_not_mem]
    intro j hj
    obtain ⟨h0, o, ho, _⟩ := mem_ready.1 hj
    have hjl : j < ops.size := (Array.getElem?_eq_some_iff.1 ho).1
    rw [hgetD hs hjl, hall j hjl] at h0
    cases h0
  | succ fuel ih =>
    intro listed a w hs hf hI
    refine ⟨fun hr => hend _ _ _ hs hI (hnone hs hr), fun i hi => ?_⟩
    obtain ⟨h0, o, ho, _⟩ := mem_ready.1 hi
    have hil : i < ops.size := (Array.getElem?_eq_some_iff.1 ho).1
    have h0' := h0
    rw [hgetD hs hil] at h0'
    refine wpOpIn_mono (fun a' w' hI' => ih _ a' w' (by simpa using hs) ?_ hI') (hstep listed a w i hs hI hi h0' hil)
    have hlf : listed[i]'(by omega) = false := by
      rw [Array.getD_eq_getD_getElem?, Array.getElem?_eq_getElem (by omega)] at h0; exact h0
    rw [Array.toList_setIfInBounds, List.countP_set (by simpa [hs] using hil)]
    have hpos : 0 < listed.toList.countP (fun b => !b) := List.countP_pos_iff.2 ⟨false, by rw [← hlf]; exact Array.mem_toList_iff.2 (Array.getElem_mem _), rfl⟩
    rw [Array.getElem_toList, hlf]
    simp only [Bool.not_false, if_true, Bool.not_true, Bool.false_eq_true, if_false]
    omega

section
variable {T : Tools} {mode : Nat} {ops : Array Oper} {ms : List Nat} {k kk : Nat} {core : Tr AObj} {cf : Nat → Nat} {asf : Nat → List Laid} {frf : Nat → Fr} {vf : Nat → AV} {Nf : Nat → Nat → Option AObj}
variable {ι0 ι : Ren} {w0 w : World} {a0 a : Act} {st0 : St} {listed : Array Bool}

theorem put_tmps_ne (a : Act) (d : Option Tmp) (v : Value) (t : Nat) (h : d ≠ some t) : (a.put d v).tmps[t]? = a.tmps[t]? := by
  cases d with
  | none => rfl
  | some d => simp only [Act.put]; rw [Array.getElem?_setIfInBounds_ne (fun e => h (by rw [e]))]
theorem put_tmps_same (a : Act) (d : Tmp) (v : Value) (h : d < a.tmps.size) : (a.put (some d) v).tmps.getD d undef = v := by
  simp [Act.put, Array.getD_eq_getD_getElem?, h]
theorem put_tmps_size (a : Act) (d : Option Tmp) (v : Value) : (a.put d v).tmps.size = a.tmps.size := by cases d <;> simp [Act.put]
theorem put_tmps_defers (a : Act) (d : Option Tmp) (v : Value) : (a.put d v).defers = a.defers := by cases d <;> simp [Act.put]
theorem getD_congr {a b : Act} {t : Nat} (h : a.tmps[t]? = b.tmps[t]?) : a.tmps.getD t undef = b.tmps.getD t undef := by
  rw [Array.getD_eq_getD_getElem?, Array.getD_eq_getD_getElem?, h]

theorem HInv.sub0 (H : HD P T mode ops ms k kk core cf asf frf vf Nf) (hI : HInv ops kk cf vf Nf ι0 w0 a0 listed ι w a) (h0 : Inv P ι0 st0 w0) (hc0 : st0.c = cf 0) {i : Nat} (hi : i ≤ kk) : Sub ι0 (upto ι (cf i)) := fun l x e => by
  have hci : cf 0 ≤ cf i := H.mono (Nat.zero_le _) hi
  have hl : l < cf 0 := by
    rcases Nat.lt_or_ge l (cf 0) with h | h
    · exact h
    · rw [h0.fresh l (by rw [hc0]; exact h)] at e; cases e
  unfold upto
  rw [if_pos (by omega), hI.low l hl]
  exact e

/-- What operation i reads. -/
theorem HInv.reads (H : HD P T mode ops ms k kk core cf asf frf vf Nf) (hI : HInv ops kk cf vf Nf ι0 w0 a0 listed ι w a) (h0 : Inv P ι0 st0 w0) (hc0 : st0.c = cf 0) (hf0 : TmRel ι0 (frf 0).tm (frf 0).nt a0.tmps)
    {i : Nat} {o : Oper} (hi : i ≤ kk) (hik : i < k) (ho : ops[i]? = some o) (hpre : ∀ j, bitOf ms i j = true → listed.getD j false = true) {t : Tmp} (ht : t ∈ readsX ops.toList o) {x : AV} (hx : (frf i).tm.get t = some x) :
    Rel (upto ι (cf i)) x (a.tmps.getD t undef) := by
  rcases H.frame t x i hi hx with ⟨j, oj, hj, hoj, hd, rfl⟩ | ⟨hno, hx0⟩
  · have hb := H.ok.reads i o hik ho t ht j oj (by have := H.le; omega) hoj hd
    exact (hI.set j oj t (by omega) hoj (hpre j hb) hd).mono (upto_mono (H.mono (by omega) hi))
  · have : a.tmps.getD t undef = a0.tmps.getD t undef := getD_congr (hI.old t fun j oj hj hoj _ hd => by
      have hb := H.ok.reads i o hik ho t ht j oj (by have := H.le; omega) hoj hd
      exact hno j oj (H.ok.lt i j o ho hb) hoj hd)
    rw [this]
    exact (hf0.get t x hx0).mono (hI.sub0 H h0 hc0 hi)

theorem mem_reads_op {l : List Oper} {o : Oper} {t : Tmp} (h : (.tmp t) ∈ o.op.operands) : t ∈ readsX l o := by
  unfold readsX
  exact List.mem_append_left _ (List.mem_filterMap.2 ⟨.tmp t, Array.mem_toList_iff.2 h, rfl⟩)
theorem mem_reads_guard {l : List Oper} {o p : Oper} {j : Nat} {want : Bool} {d : Tmp} (hg : o.guard = some (j, want)) (hp : nthX j l = some p) (hd : p.dst = some d) : d ∈ readsX l o := by
  unfold readsX
  refine List.mem_append_right _ ?_
  rw [hg]
  simp only
  rw [hp]
  simp [hd]

theorem eval_reads {ι : Ren} {st : St} {w : World} {fr : Fr} {a : Act} (hI : Inv P ι st w) {l : List Oper} {o : Oper} (h : ∀ t, t ∈ readsX l o → ∀ x, fr.tm.get t = some x → Rel ι x (a.tmps.getD t undef)) :
    ∀ x ∈ o.op.operands, ∀ v, fr.eval P x = some v → Rel ι v (a.eval x) := by
  intro x hx v e
  cases x with
  | tmp t => exact h t (mem_reads_op hx) v e
  | const c =>
    refine eval_rel (fr := { tm := .nil, nt := a.tmps.size, ds := [] }) ⟨fun t x h => by simp [Tr.get] at h, rfl⟩ hI (.const c) v ?_
    exact e
  | global g =>
    refine eval_rel (fr := { tm := .nil, nt := a.tmps.size, ds := [] }) ⟨fun t x h => by simp [Tr.get] at h, rfl⟩ hI (.global g) v ?_
    exact e
  | func g =>
    refine eval_rel (fr := { tm := .nil, nt := a.tmps.size, ds := [] }) ⟨fun t x h => by simp [Tr.get] at h, rfl⟩ hI (.func g) v ?_
    exact e

/-- One operation, its frame known where it reads. -/
theorem value_sound {F : Fence} (hF : modeF mode F) (hT : CallOK P T) {n i : Nat} {o : Oper} {fr : Fr} {st st' : St} {v : AV} {Q : Exit → Act → World → Prop} {K : Act → World → Prop} (ho : ops[i]? = some o) (hI : Inv P ι st w)
    (hr : ∀ t, t ∈ readsX ops.toList o → ∀ x, fr.tm.get t = some x → Rel ι x (a.tmps.getD t undef))
    (h : (wantedX ops.toList o fr = some false ∧ v = undefA ∧ st' = st) ∨ (wantedX ops.toList o fr = some true ∧ opX P T mode o (fr.eval P) st = some (.val v st')))
    (hK : ∀ u w' ι', Rel ι' v u → Post P ι st w ι' st' w' → K (a.put o.dst u) w') : wpOpIn F n P ops Q i K a w := by
  have hw := fun b (hb : wantedX ops.toList o fr = some b) => wantedX_spec (ι := ι) (a := a) hb (fun j want p d hg hp hd v hv => hr d (mem_reads_guard hg hp hd) v hv)
  unfold wpOpIn
  rw [ho]
  simp only
  rcases h with ⟨hwx, rfl, rfl⟩ | ⟨hwx, hop⟩
  · rw [hw false hwx, if_neg (by decide)]
    exact ⟨fun f _ => hF.fn f, hK _ w ι (rel_undef ι) (Post.refl hI)⟩
  · rw [hw true hwx, if_pos rfl]
    refine ⟨fun f _ => hF.fn f, ?_⟩
    rw [Oper.semAt_eq _ _ _ (opX_val_nodefer hop)]
    have hres := op_sound (ev := a.eval) hT hop (eval_reads hI hr) hI
    rw [hF.not2] at hres
    refine upon_of_opRes hF hres ?_
    rintro u w' ⟨ι', hrel, hp⟩
    exact hK u w' ι' hrel hp

/-- The renaming with the labels that operation i has drawn. -/
def merge (ι ι' : Ren) (c c' : Nat) : Ren := fun l => if c ≤ l ∧ l < c' then ι' l else ι l

theorem HInv.push (H : HD P T mode ops ms k kk core cf asf frf vf Nf) (hI : HInv ops kk cf vf Nf ι0 w0 a0 listed ι w a) (hs : listed.size = ops.size) (hnt : a0.tmps.size = (frf 0).nt) {i : Nat} {o : Oper} (hi : i < kk) (ho : ops[i]? = some o) (hno : listed.getD i false = false)
    {ι' : Ren} {w' : World} {u : Value} (hdom : ∀ l, l < cf i → ι' l = ι l) (hfr : ∀ l, cf (i + 1) ≤ l → ι' l = none) (hrel : Rel ι' (vf i) u) (hos : w'.os = w.os) (htape : w'.tape = w.tape) (hout : w'.output = w.output)
    (hsize : w.heap.size ≤ w'.heap.size) (hsame : ∀ b, b < w.heap.size → w'.heap[b]? = w.heap[b]?)
    (hlaid : ∀ l x, Nf i l = some x → ∃ b n ob, ι' l = some (b, n) ∧ w.heap.size ≤ b ∧ w'.heap[b]? = some ob ∧ ORel ι' n x ob ∧ unfrozen ob)
    (hinj : ∀ l m b n n', Nf i l ≠ none → Nf i m ≠ none → ι' l = some (b, n) → ι' m = some (b, n') → l = m) :
    HInv ops kk cf vf Nf ι0 w0 a0 (listed.setIfInBounds i true) (merge ι ι' (cf i) (cf (i + 1))) w' (a.put o.dst u) := by
  have hsz : i < listed.size := by rw [hs]; exact (Array.getElem?_eq_some_iff.1 ho).1
  have hset := fun j => getD_set_iff (j := j) hsz
  have hle : cf i ≤ cf (i + 1) := H.mono (by omega) (by omega)
  have h0i : cf 0 ≤ cf i := H.mono (by omega) (by omega)
  have hup : upto (merge ι ι' (cf i) (cf (i + 1))) (cf (i + 1)) = ι' := by
    funext l
    unfold upto merge
    by_cases h1 : l < cf (i + 1)
    · rw [if_pos h1]
      by_cases h2 : cf i ≤ l
      · rw [if_pos ⟨h2, h1⟩]
      · rw [if_neg (by omega), hdom l (by omega)]
    · rw [if_neg h1, hfr l (by omega)]
  have hsub : Sub ι (merge ι ι' (cf i) (cf (i + 1))) := fun l x e => by
    unfold merge
    split
    · rename_i hl
      rw [hI.unl i hi hno l hl.1 hl.2] at e; cases e
    · exact e
  have hapart : ∀ j oj d, j < kk → ops[j]? = some oj → oj.dst = some d → o.dst = some d → j = i := fun j oj d hj hoj hd hd' => H.ok.apart j i oj o d (by have := H.le; omega) (by have := H.le; omega) hoj ho hd hd'
  refine ⟨by rw [put_tmps_size]; exact hI.size, by rw [put_tmps_defers]; exact hI.defs, fun t ht => ?_, fun j oj d hj hoj hl hd => ?_, fun l hl => ?_, fun j hj hl l h1 h2 => ?_, fun l hl => ?_, hos.trans hI.os, htape.trans hI.tape, hout.trans hI.output, Nat.le_trans hI.grow hsize,
    fun b hb => (hsame b (Nat.lt_of_lt_of_le hb hI.grow)).trans (hI.same b hb), fun j hj hl l x hx => ?_, fun j j' l m b n n' hj hj' hl hl' hN hN' hb hb' => ?_⟩
  · rw [put_tmps_ne _ _ _ _ (ht i o hi ho ((hset i).2 (.inl rfl)))]
    exact hI.old t fun j oj hj hoj hl => ht j oj hj hoj ((hset j).2 (.inr hl))
  · rcases (hset j).1 hl with rfl | hl
    · rw [ho] at hoj
      cases hoj
      rw [hup, hd, put_tmps_same _ _ _ (by rw [hI.size, hnt]; exact H.slot hi ho hd)]
      exact hrel
    · have hji : j ≠ i := fun e => by rw [e, hno] at hl; cases hl
      rw [getD_congr (put_tmps_ne a o.dst u d (fun e => hji (hapart j oj d hj hoj hd e)))]
      exact (hI.set j oj d hj hoj hl hd).mono (hsub.upto _)
  · unfold merge
    rw [if_neg (by omega)]
    exact hI.low l hl
  · have hji : j ≠ i := fun e => by rw [e, (hset i).2 (.inl rfl)] at hl; cases hl
    have hlj : listed.getD j false = false := by
      cases hc : listed.getD j false with
      | false => rfl
      | true => rw [(hset j).2 (.inr hc)] at hl; cases hl
    unfold merge
    rw [if_neg ?_]
    · exact hI.unl j hj hlj l h1 h2
    · rcases Nat.lt_or_gt_of_ne hji with h | h
      · have := H.mono (i := j + 1) (j := i) (by omega) (by omega); omega
      · have := H.mono (i := i + 1) (j := j) (by omega) (by omega); omega
  · unfold merge
    rw [if_neg (by have := H.mono (i := i + 1) (j := kk) (by omega) (by omega); omega)]
    exact hI.high l hl
  · rcases (hset j).1 hl with rfl | hl
    · obtain ⟨b, n, ob, h1, h2, h3, h4, h5⟩ := hlaid l x hx
      have hr := H.range hj (l := l) (by rw [hx]; simp)
      refine ⟨b, n, ob, ?_, Nat.le_trans hI.grow h2, h3, by rw [hup]; exact h4, h5⟩
      unfold merge
      rw [if_pos hr]; exact h1
    · obtain ⟨b, n, ob, h1, h2, h3, h4, h5⟩ := hI.laid j hj hl l x hx
      exact ⟨b, n, ob, hsub _ _ h1, h2, (hsame b (Array.getElem?_eq_some_iff.1 h3).1).trans h3, h4.mono (hsub.upto _), h5⟩
  · have old : ∀ j l b n, j < kk → listed.getD j false = true → Nf j l ≠ none → merge ι ι' (cf i) (cf (i + 1)) l = some (b, n) → ι l = some (b, n) ∧ b < w.heap.size := by
      intro j l b n hj hl hN hb
      have hji : j ≠ i := fun e => by rw [e, hno] at hl; cases hl
      cases hx : Nf j l with
      | none => exact absurd hx hN
      | some x =>
        obtain ⟨b', n', ob, h1, _, h3, _⟩ := hI.laid j hj hl l x hx
        have := hsub _ _ h1
        rw [hb] at this
        cases this
        exact ⟨h1, (Array.getElem?_eq_some_iff.1 h3).1⟩
    have new : ∀ l b n, Nf i l ≠ none → merge ι ι' (cf i) (cf (i + 1)) l = some (b, n) → ι' l = some (b, n) ∧ w.heap.size ≤ b := by
      intro l b n hN hb
      have hr := H.range hi hN
      unfold merge at hb
      rw [if_pos hr] at hb
      refine ⟨hb, ?_⟩
      cases hx : Nf i l with
      | none => exact absurd hx hN
      | some x =>
        obtain ⟨b', n', ob, h1, h2, _⟩ := hlaid l x hx
        rw [hb] at h1
        cases h1
        exact h2
    rcases (hset j).1 hl with rfl | hl
    · obtain ⟨q1, q2⟩ := new l b n hN hb
      rcases (hset j').1 hl' with rfl | hl'
      · exact hinj l m b n n' hN hN' q1 (new m b n' hN' hb').1
      · have := (old j' m b n' hj' hl' hN' hb').2; omega
    · obtain ⟨q1, q2⟩ := old j l b n hj hl hN hb
      rcases (hset j').1 hl' with rfl | hl'
      · have := (new m b n' hN' hb').2; omega
      · exact hI.inj j j' l m b n n' hj hj' hl hl' hN hN' q1 (old j' m b n' hj' hl' hN' hb').1

/-- One operation of the head. -/
theorem HInv.step {F : Fence} (hF : modeF mode F) (hT : CallOK P T) {n : Nat} {Q : Exit → Act → World → Prop} {K : Act → World → Prop} (H : HD P T mode ops ms k kk core cf asf frf vf Nf) (hI : HInv ops kk cf vf Nf ι0 w0 a0 listed ι w a) (h0 : Inv P ι0 st0 w0) (hc : st0.h = core) (hc0 : st0.c = cf 0)
    (hf0 : TmRel ι0 (frf 0).tm (frf 0).nt a0.tmps) (hs : listed.size = ops.size) {i : Nat} (hi : i < kk) (hno : listed.getD i false = false) (hpre : ∀ j, bitOf ms i j = true → listed.getD j false = true)
    (hK : ∀ a' w' ι', HInv ops kk cf vf Nf ι0 w0 a0 (listed.setIfInBounds i true) ι' w' a' → K a' w') : wpOpIn F n P ops Q i K a w := by
  obtain ⟨o, ho⟩ := H.op hi
  obtain ⟨m, hm, hone⟩ := H.one i o hi ho
  have hle : cf i ≤ cf (i + 1) := hone.le
  have h0i : cf 0 ≤ cf i := H.mono (by omega) (by omega)
  have hglo : P.globals.size ≤ cf i := by have := h0.glo; have := h0.lo; omega
  have hr := fun t ht x hx => hI.reads (a := a) H h0 hc0 hf0 (i := i) (o := o) (by omega) (by have := H.le; omega) ho hpre (t := t) ht (x := x) hx
  have hupl : ∀ l, l < cf i → upto ι (cf i) l = ι l := fun l hl => by unfold upto; rw [if_pos hl]
  rcases hone.run with ⟨hw, hv, hcc, hN⟩ | ⟨hw, h, st', hwith, hop, hcc, hN⟩
  · have hIn : Inv P (upto ι (cf i)) { h := core, c := cf i, lo := cf i } w := by
      have h2 := hI.sub H h0 hc hc0 (i := i) (m' := 0) (lo := cf i) (h := core) (by omega) ?_ (fun j _ hb => by simp at hb) hglo (Nat.le_refl _)
      · exact h2
      · have : ∀ (as : List Laid), withX 0 as core = some core := fun as => by
          induction as with
          | nil => rfl
          | cons d ds ih => rw [withX, Nat.zero_testBit]; exact ih
        exact this _
    refine value_sound hF hT ho hIn hr (.inl ⟨hw, hv, rfl⟩) (fun u w' ι' hrel hp => hK _ _ _ (hI.push H hs (by rw [hf0.size]) hi ho hno (ι' := ι') (fun l hl => (hp.dom l hl).trans (hupl l hl)) (fun l hl => hp.inv.fresh l (by show cf i ≤ l; omega)) hrel hp.evo.os hp.evo.tape hp.evo.output hp.evo.size (fun b hb => hp.evo.same b hb fun l n h1 h2 _ => ?_) (fun l x hx => by rw [hN] at hx; cases hx) (fun l m b n n' h1 => absurd (hN l) h1)))
    have := hIn.lt l h2
    exact absurd this (Nat.not_lt.2 h1)
  · have hIn : Inv P (upto ι (cf i)) { h := h, c := cf i, lo := cf i } w := by
      refine hI.sub H h0 hc hc0 (by omega) hwith (fun j hj hb _ => hpre j ?_) hglo (Nat.le_refl _)
      unfold bitOf
      rw [hm]
      exact hb
    have hnolo : ∀ l, cf i ≤ l → h.get l ≠ none → False := fun l h1 h2 => absurd (hIn.lt l h2) (Nat.not_lt.2 h1)
    refine value_sound hF hT ho hIn hr (.inr ⟨hw, hop⟩) (fun u w' ι' hrel hp => hK _ _ _ (hI.push H hs (by rw [hf0.size]) hi ho hno (ι' := ι') (fun l hl => (hp.dom l hl).trans (hupl l hl)) (fun l hl => hp.inv.fresh l (by rw [hcc]; exact hl)) hrel hp.evo.os hp.evo.tape hp.evo.output hp.evo.size (fun b hb => hp.evo.same b hb fun l n h1 h2 _ => hnolo l h1 h2) (fun l x hx => ?_) (fun l m b n n' h1 h2 h3 h4 => ?_)))
    · rw [hN] at hx
      split at hx
      · rename_i hl
        obtain ⟨b, n, ob, q1, q2, q3, q4⟩ := hp.inv.heap.at_ l x hx
        refine ⟨b, n, ob, q1, ?_, q2, q3, q4 (by omega)⟩
        rcases hp.own l b n hl.1 (by rw [hx]; simp) q1 with q | ⟨m', k', q, q', _⟩
        · exact q
        · exact (hnolo m' q q').elim
      · cases hx
    · rw [hN] at h1 h2
      split at h1
      · split at h2
        · exact hp.inv.heap.inj l m b n n' h1 h2 h3 h4
        · exact absurd rfl h2
      · exact absurd rfl h1

theorem HInv.init (hc0 : st0.c = cf 0) (_hf0 : TmRel ι0 (frf 0).tm (frf 0).nt a0.tmps) (h0 : Inv P ι0 st0 w0) (H : HD P T mode ops ms k kk core cf asf frf vf Nf) {n : Nat} : HInv ops kk cf vf Nf ι0 w0 a0 (Array.replicate n false) ι0 w0 a0 := by
  have hf : ∀ j, (Array.replicate n false).getD j false = true → False := fun j h => by
    rw [Array.getD_eq_getD_getElem?, Array.getElem?_replicate] at h
    split at h <;> simp at h
  refine ⟨rfl, rfl, fun _ _ => rfl, fun j _ _ _ _ h => (hf j h).elim, fun _ _ => rfl, fun j hj _ l h1 _ => h0.fresh l ?_, fun l hl => h0.fresh l ?_, rfl, rfl, rfl, Nat.le_refl _, fun _ _ => rfl, fun j _ h => (hf j h).elim, fun i _ _ _ _ _ _ _ _ h => (hf i h).elim⟩
  · have := H.mono (i := 0) (j := j) (by omega) (by omega); omega
  · have := H.mono (i := 0) (j := kk) (by omega) (by omega); omega

/-- The head's frame and heap: all that laid anything are listed. -/
theorem HInv.post (H : HD P T mode ops ms k kk core cf asf frf vf Nf) (hI : HInv ops kk cf vf Nf ι0 w0 a0 listed ι w a) (h0 : Inv P ι0 st0 w0) (hc : st0.h = core) (hc0 : st0.c = cf 0) {m' : Nat} {h : Tr AObj} (hw : withX m' (asf kk) core = some h)
    (hm : ∀ j, j < kk → m'.testBit j = true → (∃ l, Nf j l ≠ none) → listed.getD j false = true) : Post P ι0 st0 w0 ι { h := h, c := cf kk, lo := st0.lo } w := by
  have hck : cf 0 ≤ cf kk := H.mono (Nat.zero_le _) (Nat.le_refl _)
  have hlo := h0.lo
  have hup : upto ι (cf kk) = ι := by
    funext l
    unfold upto
    split
    · rfl
    · rw [hI.high l (by omega)]
  have hIn := hI.sub H h0 hc hc0 (Nat.le_refl _) hw hm h0.glo (by omega)
  rw [hup] at hIn
  have hsub := hI.sub0 H h0 hc0 (Nat.le_refl kk)
  rw [hup] at hsub
  have key : ∀ l, h.get l ≠ none → (h.get l = core.get l ∧ l < cf 0) ∨ (∃ j, j < kk ∧ listed.getD j false = true ∧ Nf j l = h.get l ∧ cf 0 ≤ l) := by
    intro l hl
    have e := withX_get _ _ _ _ hw l
    split at e
    · rename_i x hx
      obtain ⟨j, hj, hb, hN⟩ := H.look m' l kk (Nat.le_refl _) x hx
      have hr := H.range (j := j) (l := l) (by omega) (by rw [hN]; simp)
      have h1 := H.mono (i := 0) (j := j) (Nat.zero_le _) (by omega)
      exact .inr ⟨j, hj, hm j hj hb ⟨l, by rw [hN]; simp⟩, by rw [hN, e], by omega⟩
    · refine .inl ⟨e, ?_⟩
      have := h0.lt l (by rw [hc, ← e]; exact hl)
      rw [← hc0]; exact this
  refine ⟨hsub, fun l hl => hI.low l (by rw [← hc0]; exact hl), by show st0.c ≤ cf kk; omega, rfl, fun l hl => ?_, hIn, ⟨hI.os, hI.tape, hI.output, hI.grow, fun b hb _ => hI.same b hb⟩, fun l b n hl hg hi => ?_⟩
  · show h.get l = st0.h.get l
    have e := withX_get _ _ _ _ hw l
    split at e
    · rename_i x hx
      obtain ⟨j, hj, hb, hN⟩ := H.look m' l kk (Nat.le_refl _) x hx
      have hr := H.range (j := j) (l := l) (by omega) (by rw [hN]; simp)
      have h1 := H.mono (i := 0) (j := j) (Nat.zero_le _) (by omega)
      omega
    · rw [e, hc]
  · rcases key l hg with ⟨h1, h2⟩ | ⟨j, hj, hlj, hN, h1⟩
    · refine .inr ⟨l, n, hl, by rw [hc, ← h1]; exact hg, ?_⟩
      rw [hI.low l h2] at hi; exact hi
    · cases hx : Nf j l with
      | none => rw [← hN, hx] at hg; exact absurd rfl hg
      | some x =>
        obtain ⟨b', n', ob, q1, q2, _⟩ := hI.laid j hj hlj l x hx
        rw [hi] at q1
        cases q1
        exact .inl q2

/-- The frame behind the head. -/
theorem HInv.frame (H : HD P T mode ops ms k kk core cf asf frf vf Nf) (hI : HInv ops kk cf vf Nf ι0 w0 a0 listed ι w a) (h0 : Inv P ι0 st0 w0) (hc0 : st0.c = cf 0) (hf0 : FrRel ι0 (frf 0) a0) (hall : ∀ j, j < kk → listed.getD j false = true) : FrRel ι (frf kk) a := by
  have hup : upto ι (cf kk) = ι := by
    funext l
    unfold upto
    split
    · rfl
    · rw [hI.high l (by omega)]
  have hsub := hI.sub0 H h0 hc0 (Nat.le_refl kk)
  rw [hup] at hsub
  obtain ⟨hnt, hds⟩ := H.shape kk (Nat.le_refl _)
  refine ⟨⟨fun t x hx => ?_, by rw [hI.size, hf0.tm.size, hnt]⟩, ?_⟩
  · rcases H.frame t x kk (Nat.le_refl _) hx with ⟨j, oj, hj, hoj, hd, rfl⟩ | ⟨hno, hx0⟩
    · exact (hI.set j oj t hj hoj (hall j hj) hd).mono (upto_sub _ _)
    · rw [getD_congr (hI.old t fun j oj hj hoj _ => hno j oj hj hoj)]
      exact (hf0.tm.get t x hx0).mono hsub
  · rw [hds, hI.defs]
    exact hf0.ds.mono hsub
end
end Go.Proofs.Bc
