/- One law for a region that draws its order: what each operation hands back is said by itself; the last operations, which wait for all others, are walked in their order. -/
import Derived.Test.YtglbbdailankpaaGreatDoorB2
namespace Go.Proofs.Bc
open Go Go.RowKit
variable {P : Program}

/-- An operation has run: it has handed back a value of which Φ holds; the blocks of L are as they were; nothing of H has turned. -/
def phiUpon (P : Program) (w0 : World) (L : List Chunk) (H : Snap) (Φ : Snap → Value → Prop) : Result Next → Prop
  | .ok (.value v) w' => ∃ H', H.Sub H' ∧ S w0 H' w' L ∧ Φ H' v
  | .ok .skip w' => ∃ H', H.Sub H' ∧ S w0 H' w' L ∧ Φ H' undef
  | .ok (.enter f args) w' => Calls P f args w' fun e w'' => ∃ v, e = .returned v ∧ ∃ H', H.Sub H' ∧ S w0 H' w'' L ∧ Φ H' v
  | _ => False

theorem phi_wp {w0 w : World} {L : List Chunk} {H : Snap} {Φ : Snap → Value → Prop} {o : Oper} {a : Act} {K : Act → World → Prop} {Q : Exit → Act → World → Prop}
    (h : phiUpon P w0 L H Φ ((execOp a.eval o).run P w)) (hK : ∀ H' v w', H.Sub H' → S w0 H' w' L → Φ H' v → K (a.put o.dst v) w') : o.wp P a w K Q := by
  unfold Oper.wp
  cases hr : (execOp a.eval o).run P w with
  | ok x w' =>
    rw [hr] at h
    cases x with
    | value v => obtain ⟨H', h1, h2, h3⟩ := h; exact hK H' v w' h1 h2 h3
    | skip => obtain ⟨H', h1, h2, h3⟩ := h; exact hK H' _ w' h1 h2 h3
    | enter f args =>
      rw [Oper.upon_enter]
      refine Calls.mono h ?_
      rintro e w'' ⟨v, rfl, H', h1, h2, h3⟩
      exact hK H' v w'' h1 h2 h3
    | _ => exact h.elim
  | halt x w' => rw [hr] at h; exact h.elim

/-- Operation i waits for operation j. -/
def depB (l : List Oper) (i j : Nat) : Bool := ((l[i]?).map fun o => o.after.toList.any fun e => Region.binds .any e && e.on == j).getD false
def dstsOf (l : List Oper) : List Tmp := l.filterMap (·.dst)
/-- What is asked of the region's text: every operation waits for earlier ones alone; the slots of the first m are apart and within the frame; from m on each waits for all before it. -/
def phiB (l : List Oper) (m n : Nat) : Bool :=
  (l.zipIdx.all fun x => x.1.after.toList.all fun e => decide (e.on < x.2)) &&
  decide (dstsOf (l.take m)).Nodup && ((dstsOf (l.take m)).all fun d => decide (d < n)) && decide (m ≤ l.length) &&
  (List.range l.length).all fun i => decide (i < m) || (List.range i).all fun j => depB l i j
/-- The values laid into the slots, in the text's order. -/
def putAll : List Oper → (Nat → Value) → Nat → Act → Act
  | [], _, _, a => a
  | o :: l, vs, k, a => putAll l vs (k + 1) (a.put o.dst (vs k))

theorem put_size (a : Act) (d : Option Tmp) (v : Value) : (a.put d v).tmps.size = a.tmps.size := by cases d <;> simp [Act.put]
theorem put_defers (a : Act) (d : Option Tmp) (v : Value) : (a.put d v).defers = a.defers := by cases d <;> simp [Act.put]
theorem put_same (a : Act) (d : Tmp) (v : Value) (h : d < a.tmps.size) : (a.put (some d) v).tmps[d]? = some v := by simp [Act.put, h]
theorem put_ne (a : Act) (d : Option Tmp) (v : Value) (t : Nat) (h : d ≠ some t) : (a.put d v).tmps[t]? = a.tmps[t]? := by
  cases d with
  | none => rfl
  | some d => simp only [Act.put]; rw [Array.getElem?_setIfInBounds_ne (fun e => h (by rw [e]))]

theorem putAll_spec (vs : Nat → Value) : ∀ (l : List Oper) (k : Nat) (a : Act), (dstsOf l).Nodup → (∀ d, d ∈ dstsOf l → d < a.tmps.size) →
    (putAll l vs k a).tmps.size = a.tmps.size ∧ (putAll l vs k a).defers = a.defers ∧
    (∀ t, t ∉ dstsOf l → (putAll l vs k a).tmps[t]? = a.tmps[t]?) ∧ (∀ (i : Nat) o d, l[i]? = some o → o.dst = some d → (putAll l vs k a).tmps[d]? = some (vs (k + i)))
  | [], k, a, _, _ => ⟨rfl, rfl, fun _ _ => rfl, fun i o d h => by simp at h⟩
  | o :: l, k, a, hn, hl => by
    have hsub : ∀ d, d ∈ dstsOf l → d ∈ dstsOf (o :: l) := fun d hd => by unfold dstsOf at *; rw [List.filterMap_cons]; split <;> simp_all
    have hn' : (dstsOf l).Nodup := by unfold dstsOf at *; rw [List.filterMap_cons] at hn; split at hn <;> simp_all
    obtain ⟨h1, h2, h3, h4⟩ := putAll_spec vs l (k + 1) (a.put o.dst (vs k)) hn' (fun d hd => by rw [put_size]; exact hl d (hsub d hd))
    refine ⟨by rw [putAll, h1, put_size], by rw [putAll, h2, put_defers], fun t ht => ?_, fun i u d hi hd => ?_⟩
    · rw [putAll, h3 t (fun h => ht (hsub t h))]
      refine put_ne _ _ _ _ fun e => ht ?_
      unfold dstsOf; rw [List.filterMap_cons, e]; simp
    · cases i with
      | zero =>
        simp only [List.getElem?_cons_zero, Option.some.injEq] at hi
        subst hi
        have hd' : d ∉ dstsOf l := by unfold dstsOf at *; rw [List.filterMap_cons, hd] at hn; exact (List.nodup_cons.1 hn).1
        rw [putAll, h3 d hd', hd]
        exact put_same _ _ _ (hl d (by unfold dstsOf; rw [List.filterMap_cons, hd]; simp))
      | succ i =>
        rw [putAll, h4 i u d (by simpa using hi) hd]
        congr 2; omega

section
variable {l : List Oper} {m n : Nat} {Q : Exit → Act → World → Prop}

theorem mem_dsts {i : Nat} {o : Oper} {d : Tmp} (hi : l[i]? = some o) (hd : o.dst = some d) : d ∈ dstsOf l :=
  List.mem_filterMap.2 ⟨o, List.mem_of_getElem? hi, hd⟩

/-- The tail, one after the other. -/
theorem phi_tail (hedge : ∀ (i : Nat) (o : Oper), l[i]? = some o → ∀ e : Edge, e ∈ o.after → e.on < i) (htail : ∀ i, m ≤ i → i < l.length → ∀ j, j < i → depB l i j = true) :
    ∀ (c k fuel : Nat) (listed : Array Bool) (a : Act) (w : World), l.length - k = c → m ≤ k → k ≤ l.length → l.length - k ≤ fuel → listed.size = l.length → (∀ j, j < k → listed.getD j false = true) →
      (∀ j, k ≤ j → j < l.length → listed.getD j true = false) → wpList P l.toArray Q (l.drop k) a w → wpAny P .any l.toArray Q fuel listed a w := by
  intro c
  induction c with
  | zero =>
    intro k fuel listed a w hc hk hkl hf hs h1 h2 h
    have hkk : k = l.length := by omega
    subst hkk
    have hr : Region.ready .any l.toArray listed = [] := by
      rw [List.eq_nil_iff_forall_not_mem]
      intro j hj
      obtain ⟨h0, o, ho, _⟩ := mem_ready.1 hj
      have hjl : j < l.length := by simpa using (Array.getElem?_eq_some_iff.1 ho).1
      have := h1 j hjl
      rw [Array.getD_eq_getD_getElem?] at this h0
      rw [Array.getElem?_eq_getElem (by omega)] at this h0
      simp_all
    rw [List.drop_length] at h
    cases fuel with
    | zero => exact ⟨hr, h⟩
    | succ f => exact ⟨fun _ => h, fun i hi => by rw [hr] at hi; cases hi⟩
  | succ c ih =>
    intro k fuel listed a w hc hk hkl hf hs h1 h2 h
    have hlt : k < l.length := by omega
    obtain ⟨f, rfl⟩ : ∃ f, fuel = f + 1 := ⟨fuel - 1, by omega⟩
    have hk0 : l[k]? = some l[k] := List.getElem?_eq_getElem hlt
    have hready : ∀ i, i ∈ Region.ready .any l.toArray listed → i = k := by
      intro i hi
      obtain ⟨h0, o, ho, he⟩ := mem_ready.1 hi
      have ho' : l[i]? = some o := by simpa using ho
      have hil : i < l.length := (List.getElem?_eq_some_iff.1 ho').1
      rcases Nat.lt_trichotomy i k with hlt' | heq | hgt
      · have := h1 i hlt'
        rw [Array.getD_eq_getD_getElem?, Array.getElem?_eq_getElem (by omega)] at this h0
        simp_all
      · exact heq
      · have hd := htail i (by omega) hil k hgt
        unfold depB at hd
        rw [ho'] at hd
        simp only [Option.map_some, Option.getD_some, List.any_eq_true] at hd
        obtain ⟨e, hem, hb⟩ := hd
        simp only [Bool.and_eq_true, beq_iff_eq] at hb
        have h3 := he e (Array.mem_toList_iff.1 hem) hb.1
        rw [hb.2] at h3
        have h4 := h2 k (Nat.le_refl _) hlt
        rw [Array.getD_eq_getD_getElem?, Array.getElem?_eq_getElem (by omega)] at h3 h4
        simp_all
    have hin : k ∈ Region.ready .any l.toArray listed := by
      exact mem_ready.2 ⟨h2 k (Nat.le_refl _) hlt, l[k], by simp, fun e hem _ => h1 e.on (hedge k _ hk0 e hem)⟩
    refine ⟨fun hnil => (by rw [hnil] at hin; cases hin), fun i hi => ?_⟩
    have hik := hready i hi
    subst hik
    have hdrop : l.drop i = l[i] :: l.drop (i + 1) := List.drop_eq_getElem_cons hlt
    rw [hdrop, wpList] at h
    have hnext : ∀ a w, wpList P l.toArray Q (l.drop (i + 1)) a w → wpAny P .any l.toArray Q f (listed.setIfInBounds i true) a w := fun a w h =>
      ih (i + 1) f (listed.setIfInBounds i true) a w (by omega) (by omega) (by omega) (by omega) (by simpa using hs)
        (fun j hj => by
          rcases Nat.lt_succ_iff_lt_or_eq.1 hj with hj | hj
          · exact getD_set_true (h1 j hj)
          · subst hj; rw [Array.getD_eq_getD_getElem?]; simp [hs, hlt])
        (fun j hj hjl => by rw [getD_set_ne _ (by omega)]; exact h2 j (by omega) hjl) h
    unfold wpOp
    rw [show l.toArray[i]? = some l[i] by simp]
    dsimp only
    split
    · rename_i hw
      rw [if_pos hw] at h
      rcases h with h | h
      · exact .inl (Oper.wp_mono hnext h)
      · exact .inr h
    · rename_i hw
      rw [if_neg hw] at h
      exact hnext _ _ h
end

theorem getD_eval {a : Act} {t : Nat} {v : Value} (h : a.tmps[t]? = some v) : a.eval (.tmp t) = v := by
  show a.tmps.getD t undef = v
  rw [Array.getD_eq_getD_getElem?, h]; rfl
theorem eval_congr {a b : Act} {t : Nat} (h : a.tmps[t]? = b.tmps[t]?) : a.eval (.tmp t) = b.eval (.tmp t) := by
  show a.tmps.getD t undef = b.tmps.getD t undef
  rw [Array.getD_eq_getD_getElem?, Array.getD_eq_getD_getElem?, h]

/-- What holds between two operations of the region. -/
structure PhiInv (l : List Oper) (m : Nat) (a0 : Act) (Φ : Nat → Snap → Value → Prop) (H : Snap) (vs : Nat → Value) (listed : Array Bool) (a : Act) : Prop where
  defers : a.defers = a0.defers
  size : a.tmps.size = a0.tmps.size
  set : ∀ (j : Nat) (oj : Oper) (d : Tmp), j < m → l[j]? = some oj → listed.getD j false = true → oj.dst = some d → a.tmps[d]? = some (vs j)
  old : ∀ t, (∀ (j : Nat) (oj : Oper), j < m → l[j]? = some oj → listed.getD j false = true → oj.dst ≠ some t) → a.tmps[t]? = a0.tmps[t]?
  phi : ∀ j, j < m → listed.getD j false = true → Φ j H (vs j)

theorem PhiInv.all {l : List Oper} {m : Nat} {a0 : Act} {Φ : Nat → Snap → Value → Prop} {H : Snap} {vs : Nat → Value} {listed : Array Bool} {a : Act} (h : PhiInv l m a0 Φ H vs listed a)
    (hall : ∀ j, j < m → listed.getD j false = true) (hm : m ≤ l.length) (hn : (dstsOf (l.take m)).Nodup) (hlt : ∀ d, d ∈ dstsOf (l.take m) → d < a0.tmps.size) : a = putAll (l.take m) vs 0 a0 := by
  obtain ⟨h1, h2, h3, h4⟩ := putAll_spec vs (l.take m) 0 a0 hn hlt
  have ht : a.tmps = (putAll (l.take m) vs 0 a0).tmps := by
    refine Array.ext_getElem? fun t => ?_
    by_cases hd : t ∈ dstsOf (l.take m)
    · obtain ⟨o, ho, hod⟩ := List.mem_filterMap.1 hd
      obtain ⟨i, hi⟩ := List.getElem?_of_mem ho
      have him : i < m := by
        have := (List.getElem?_eq_some_iff.1 hi).1
        rw [List.length_take] at this; omega
      have hil : l[i]? = some o := by rw [List.getElem?_take_of_lt him] at hi; exact hi
      rw [h.set i o t him hil (hall i him) hod, h4 i o t hi hod, Nat.zero_add]
    · rw [h3 t hd, h.old t fun j oj hj hl _ he => hd (List.mem_filterMap.2 ⟨oj, ?_, he⟩)]
      exact List.mem_of_getElem? (by rw [List.getElem?_take_of_lt hj]; exact hl)
  cases a
  have hdef := h.defers
  generalize hp : putAll (l.take m) vs 0 a0 = b at *
  cases b
  simp_all

theorem wp_region_phi {id : Nat} {w0 w : World} {H0 : Snap} {L : List Chunk} {a0 : Act} {Q : Exit → Act → World → Prop} (l : List Oper) (m : Nat) (hm : P.follows .mixedOrders = true) (hB : phiB l m a0.tmps.size = true)
    (hS : S w0 H0 w L) (Φ : Nat → Snap → Value → Prop) (hmono : ∀ i H H' v, i < m → H.Sub H' → Φ i H v → Φ i H' v)
    (hstep : ∀ (i : Nat) (o : Oper), i < m → l[i]? = some o → ∀ (H : Snap) (w : World) (a : Act) (vs : Nat → Value), H0.Sub H → S w0 H w L → (∀ t, t ∉ dstsOf (l.take m) → a.eval (.tmp t) = a0.eval (.tmp t)) →
      (∀ j, depB l i j = true → ∀ (oj : Oper) (d : Tmp), l[j]? = some oj → oj.dst = some d → a.tmps[d]? = some (vs j) ∧ Φ j H (vs j)) →
      (Region.wanted o (yielded l.toArray a.tmps) = true ∧ phiUpon P w0 L H (Φ i) ((execOp a.eval o).run P w)) ∨ (Region.wanted o (yielded l.toArray a.tmps) = false ∧ Φ i H undef))
    (hend : ∀ (H : Snap) (w : World) (vs : Nat → Value), H0.Sub H → S w0 H w L → (∀ i, i < m → Φ i H (vs i)) → wpList P l.toArray Q (l.drop m) (putAll (l.take m) vs 0 a0) w) :
    (Code.region id l.toArray true).wp P Q a0 w := by
  simp only [phiB, Bool.and_eq_true, List.all_eq_true, decide_eq_true_eq, List.mem_range, Bool.or_eq_true] at hB
  obtain ⟨⟨⟨⟨hB1, hnd⟩, hlt⟩, hml⟩, hB5⟩ := hB
  have hedge : ∀ (i : Nat) (o : Oper), l[i]? = some o → ∀ e : Edge, e ∈ o.after → e.on < i := fun i o hi e he => by
    have := hB1 (o, i) (by rw [List.mem_zipIdx_iff_getElem?]; exact hi) e (Array.mem_toList_iff.2 he)
    exact this
  have htail : ∀ i, m ≤ i → i < l.length → ∀ j, j < i → depB l i j = true := fun i h1 h2 j h3 => by
    rcases hB5 i h2 with h | h
    · omega
    · exact h j h3
  refine wp_region_any hm ?_
  have key : ∀ (fuel : Nat) (listed : Array Bool) (a : Act) (w : World) (H : Snap) (vs : Nat → Value), listed.size = l.length → listed.toList.countP (fun b => !b) ≤ fuel →
      (∀ j, m ≤ j → j < l.length → listed.getD j true = false) → H0.Sub H → S w0 H w L → PhiInv l m a0 Φ H vs listed a → wpAny P .any l.toArray Q fuel listed a w := by
    intro fuel
    induction fuel with
    | zero =>
      intro listed a w H vs hs hf hun hsub hSw hI
      have hall : ∀ j, j < l.length → listed.getD j false = true := fun j hj => by
        have h0 : listed.toList.countP (fun b => !b) = 0 := by omega
        rw [List.countP_eq_zero] at h0
        have := h0 listed[j] (Array.mem_toList_iff.2 (Array.getElem_mem (by omega)))
        rw [Array.getD_eq_getD_getElem?, Array.getElem?_eq_getElem (by omega)]
        simpa using this
      have hlm : l.length ≤ m := by
        rcases Nat.lt_or_ge m l.length with h | h
        · have h1 := hun m (Nat.le_refl _) h
          have h2 := hall m h
          rw [Array.getD_eq_getD_getElem?, Array.getElem?_eq_getElem (by omega)] at h1 h2
          simp_all
        · exact h
      have ha := hI.all (fun j hj => hall j (by omega)) hml hnd (fun d hd => hlt d hd)
      have he := hend H w vs hsub hSw (fun i hi => hI.phi i hi (hall i (by omega)))
      rw [← ha] at he
      exact phi_tail hedge htail 0 l.length 0 listed a w (by omega) hml (Nat.le_refl _) (by omega) hs hall (fun j h1 h2 => by omega) (by rw [show l.drop l.length = l.drop m by rw [List.drop_of_length_le (Nat.le_refl _), List.drop_of_length_le hlm]]; exact he)
    | succ fuel ih =>
      intro listed a w H vs hs hf hun hsub hSw hI
      by_cases hall : ∀ j, j < m → listed.getD j false = true
      · have ha := hI.all hall hml hnd (fun d hd => hlt d hd)
        have he := hend H w vs hsub hSw (fun i hi => hI.phi i hi (hall i hi))
        rw [← ha] at he
        refine phi_tail hedge htail (l.length - m) m (fuel + 1) listed a w rfl (Nat.le_refl _) hml ?_ hs hall hun he
        have hcount : l.length - m ≤ listed.toList.countP (fun b => !b) := by
          have e1 : listed.toList = listed.toList.take m ++ listed.toList.drop m := (List.take_append_drop _ _).symm
          rw [e1, List.countP_append]
          have e2 : (listed.toList.drop m).countP (fun b => !b) = (listed.toList.drop m).length := by
            rw [List.countP_eq_length]
            intro b hb
            obtain ⟨i, hi⟩ := List.getElem?_of_mem hb
            rw [List.getElem?_drop] at hi
            have hil : m + i < listed.toList.length := (List.getElem?_eq_some_iff.1 hi).1
            have := hun (m + i) (by omega) (by simpa [hs] using hil)
            rw [Array.getD_eq_getD_getElem?] at this
            rw [Array.getElem?_toList] at hi
            rw [hi] at this
            simpa using this
          rw [e2, List.length_drop]
          have e3 : listed.toList.length = l.length := by rw [Array.length_toList]; exact hs
          rw [e3]
          exact Nat.le_add_left _ _
        omega
      · have hex : ∃ i, i < m ∧ listed.getD i false = false := by
          by_cases h : ∃ i, i < m ∧ listed.getD i false = false
          · exact h
          · exact absurd (fun j hj => by
              cases hc : listed.getD j false with
              | true => rfl
              | false => exact absurd ⟨j, hj, hc⟩ h) hall
        have hno : ∀ i, i ∈ Region.ready .any l.toArray listed → i < m := by
          intro i hi
          obtain ⟨h0, o, ho, he⟩ := mem_ready.1 hi
          have hil : i < l.length := by simpa using (Array.getElem?_eq_some_iff.1 ho).1
          rcases Nat.lt_or_ge i m with h | h
          · exact h
          · obtain ⟨k, hk, hkf⟩ := hex
            have hd := htail i h hil k (by omega)
            unfold depB at hd
            rw [show l[i]? = some o by simpa using ho] at hd
            simp only [Option.map_some, Option.getD_some, List.any_eq_true] at hd
            obtain ⟨e, hem, hb⟩ := hd
            simp only [Bool.and_eq_true, beq_iff_eq] at hb
            have h3 := he e (Array.mem_toList_iff.1 hem) hb.1
            rw [hb.2] at h3
            rw [h3] at hkf; cases hkf
        have hleast : ∃ i, i < m ∧ listed.getD i false = false ∧ ∀ j, j < i → listed.getD j false = true := by
          obtain ⟨k, hk, hkf⟩ := hex
          clear hf ih hno
          induction k using Nat.strongRecOn with
          | _ k ihk =>
            by_cases h : ∃ j, j < k ∧ listed.getD j false = false
            · obtain ⟨j, hj, hjf⟩ := h
              exact ihk j hj (by omega) hjf
            · exact ⟨k, hk, hkf, fun j hj => by
                cases hc : listed.getD j false with
                | true => rfl
                | false => exact absurd ⟨j, hj, hc⟩ h⟩
        have hsome : Region.ready .any l.toArray listed ≠ [] := by
          obtain ⟨i, him, hif, hij⟩ := hleast
          have hil : i < l.length := by omega
          have : i ∈ Region.ready .any l.toArray listed := mem_ready.2 ⟨by
            rw [Array.getD_eq_getD_getElem?, Array.getElem?_eq_getElem (by omega)] at hif ⊢; exact hif, l[i], by simp, fun e hem _ => hij e.on (hedge i _ (List.getElem?_eq_getElem hil) e hem)⟩
          intro hnil; rw [hnil] at this; cases this
        refine ⟨fun h => absurd h hsome, fun i hi => ?_⟩
        have him := hno i hi
        obtain ⟨h0, o, ho, he⟩ := mem_ready.1 hi
        have ho' : l[i]? = some o := by simpa using ho
        have hil : i < l.length := (List.getElem?_eq_some_iff.1 ho').1
        have hst := hstep i o him ho' H w a vs hsub hSw (fun t ht => eval_congr (hI.old t fun j oj hj hl _ hd => ht (List.mem_filterMap.2 ⟨oj, List.mem_of_getElem? (by rw [List.getElem?_take_of_lt hj]; exact hl), hd⟩)))
          (fun j hj oj d hoj hd => by
            unfold depB at hj
            rw [ho'] at hj
            simp only [Option.map_some, Option.getD_some, List.any_eq_true] at hj
            obtain ⟨e, hem, hb⟩ := hj
            simp only [Bool.and_eq_true, beq_iff_eq] at hb
            have h3 := he e (Array.mem_toList_iff.1 hem) hb.1
            rw [hb.2] at h3
            have hji : j < i := by rw [← hb.2]; exact hedge i o ho' e (Array.mem_toList_iff.1 hem)
            exact ⟨hI.set j oj d (by omega) hoj h3 hd, hI.phi j (by omega) h3⟩)
        have hnext : ∀ (H' : Snap) (v : Value) (w' : World), H.Sub H' → S w0 H' w' L → Φ i H' v → wpAny P .any l.toArray Q fuel (listed.setIfInBounds i true) (a.put o.dst v) w' := by
          intro H' v w' hs' hSw' hphi
          have hset : ∀ j, (listed.setIfInBounds i true).getD j false = true ↔ (j = i ∨ listed.getD j false = true) := by
            intro j
            by_cases hji : j = i
            · subst hji; rw [Array.getD_eq_getD_getElem?]; simp [hs, hil]
            · rw [getD_set_ne _ (Ne.symm hji)]; simp [hji]
          refine ih (listed.setIfInBounds i true) (a.put o.dst v) w' H' (fun j => if j = i then v else vs j) (by simpa using hs) ?_ (fun j h1 h2 => by rw [getD_set_ne _ (by omega)]; exact hun j h1 h2) (hsub.trans hs') hSw' ?_
          · have hlf : listed[i]'(by omega) = false := by
              rw [Array.getD_eq_getD_getElem?, Array.getElem?_eq_getElem (by omega)] at h0; exact h0
            rw [Array.toList_setIfInBounds, List.countP_set (by simpa [hs] using hil)]
            have hpos : 0 < listed.toList.countP (fun b => !b) := List.countP_pos_iff.2 ⟨false, by rw [← hlf]; exact Array.mem_toList_iff.2 (Array.getElem_mem _), rfl⟩
            rw [Array.getElem_toList, hlf]
            simp only [Bool.not_false, if_true, Bool.not_true, Bool.false_eq_true, if_false]
            omega
          · refine ⟨by rw [put_defers]; exact hI.defers, by rw [put_size]; exact hI.size, fun j oj d hj hoj hjl hd => ?_, fun t ht => ?_, fun j hj hjl => ?_⟩
            · by_cases hji : j = i
              · subst hji
                have hoo : oj = o := Option.some.inj (hoj.symm.trans ho')
                rw [if_pos rfl, ← hoo, hd]
                exact put_same _ _ _ (by rw [hI.size]; exact hlt d (List.mem_filterMap.2 ⟨oj, List.mem_of_getElem? (by rw [List.getElem?_take_of_lt hj]; exact hoj), hd⟩))
              · rw [if_neg hji, put_ne _ _ _ _ fun e => ?_]
                · exact hI.set j oj d hj hoj (((hset j).1 hjl).resolve_left hji) hd
                · -- two operations with one slot
                  have hpair := hnd
                  have key2 : ∀ (l : List Oper) (p q : Nat) (op oq : Oper), (dstsOf l).Nodup → l[p]? = some op → l[q]? = some oq → op.dst = some d → oq.dst = some d → p = q := by
                    intro l
                    induction l with
                    | nil => intro p q op oq _ h; simp at h
                    | cons u l ihl =>
                      intro p q op oq hn hp hq hpd hqd
                      have hn' : (dstsOf l).Nodup := by unfold dstsOf at *; rw [List.filterMap_cons] at hn; split at hn <;> simp_all
                      cases p with
                      | zero =>
                        cases q with
                        | zero => rfl
                        | succ q =>
                          simp only [List.getElem?_cons_zero, Option.some.injEq, List.getElem?_cons_succ] at hp hq
                          subst hp
                          exfalso
                          unfold dstsOf at hn; rw [List.filterMap_cons, hpd] at hn
                          exact (List.nodup_cons.1 hn).1 (mem_dsts hq hqd)
                      | succ p =>
                        cases q with
                        | zero =>
                          simp only [List.getElem?_cons_zero, Option.some.injEq, List.getElem?_cons_succ] at hp hq
                          subst hq
                          exfalso
                          unfold dstsOf at hn; rw [List.filterMap_cons, hqd] at hn
                          exact (List.nodup_cons.1 hn).1 (mem_dsts hp hpd)
                        | succ q => exact congrArg (· + 1) (ihl p q op oq hn' (by simpa using hp) (by simpa using hq) hpd hqd)
                  exact hji (key2 (l.take m) j i oj o hnd (by rw [List.getElem?_take_of_lt hj]; exact hoj) (by rw [List.getElem?_take_of_lt him]; exact ho') hd e)
            · rw [put_ne _ _ _ _ (ht i o him ho' ((hset i).2 (.inl rfl)))]
              exact hI.old t fun j oj hj hoj hjl => ht j oj hj hoj ((hset j).2 (.inr hjl))
            · by_cases hji : j = i
              · subst hji; rw [if_pos rfl]; exact hphi
              · rw [if_neg hji]; exact hmono j H H' _ hj hs' (hI.phi j hj (((hset j).1 hjl).resolve_left hji))
        unfold wpOp
        rw [ho]
        dsimp only
        rcases hst with ⟨hw, hst⟩ | ⟨hw, hst⟩
        · rw [if_pos hw]
          exact .inl (phi_wp hst hnext)
        · rw [if_neg (by rw [hw]; exact Bool.false_ne_true)]
          exact hnext H undef w (Snap.Sub.refl _) hSw hst
  refine key _ _ _ _ H0 (fun _ => undef) (by simp) ?_ (fun j _ hj => ?_) (Snap.Sub.refl _) (hS.drew) ⟨rfl, rfl, fun j oj d _ hoj hjl => ?_, fun _ _ => rfl, fun j _ hjl => ?_⟩
  · refine Nat.le_trans List.countP_le_length ?_; simp
  · rw [Array.getD_eq_getD_getElem?]; simp [hj]
  · exfalso
    rw [Array.getD_eq_getD_getElem?] at hjl
    have := (List.getElem?_eq_some_iff.1 hoj).1
    simp [this] at hjl
  · exfalso
    rw [Array.getD_eq_getD_getElem?] at hjl
    by_cases h : j < l.length <;> simp [h] at hjl
#print axioms wp_region_phi
end Go.Proofs.Bc
