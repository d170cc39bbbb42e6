/- A region that draws its order, each operation said by itself; the last wait for all others, themselves or through others. -/
import Derived.Test.YtglbbdailankpaaGreatDoorXR
import Derived.Test.YtglbbdailankpaaGreatDoorB3
namespace Go.Proofs.Bc
open Go Go.RowKit
variable {P : Program}

theorem wpAny_inv {ops : Array Oper} {Q : Exit → Act → World → Prop} (hedge : ∀ (i : Nat) (o : Oper), ops[i]? = some o → ∀ e, e ∈ o.after.toList → Region.binds .any e = true → e.on < i)
    (I : Array Bool → Act → World → Prop)
    (hstep : ∀ listed a w i, listed.size = ops.size → I listed a w → i ∈ Region.ready .any ops listed → listed.getD i false = false → i < ops.size → wpOp P ops Q i (I (listed.setIfInBounds i true)) a w)
    (hend : ∀ listed a w, listed.size = ops.size → I listed a w → (∀ j, j < ops.size → listed.getD j false = true) → Q .normal a w) :
    ∀ (fuel : Nat) (listed : Array Bool) (a : Act) (w : World), listed.size = ops.size → listed.toList.countP (fun b => !b) ≤ fuel → I listed a w → wpAny P .any ops Q fuel listed a w := by
  have hgetD : ∀ {listed : Array Bool} {i : Nat}, listed.size = ops.size → i < ops.size → listed.getD i true = listed.getD i false := fun {listed i} hs hi => by
    rw [Array.getD_eq_getD_getElem?, Array.getD_eq_getD_getElem?, Array.getElem?_eq_getElem (by omega)]; rfl
  have hnone : ∀ {listed : Array Bool}, listed.size = ops.size → Region.ready .any ops listed = [] → ∀ j, j < ops.size → listed.getD j false = true := by
    intro listed hs hr j
    induction j using Nat.strongRecOn with
    | _ j ih =>
      intro hj
      cases hc : listed.getD j false with
      | true => rfl
      | false =>
        have : j ∈ Region.ready .any ops listed := mem_ready.2 ⟨by rw [hgetD hs hj]; exact hc, ops[j], Array.getElem?_eq_getElem hj, fun e he hb => by
          have := hedge j _ (Array.getElem?_eq_getElem hj) e (Array.mem_toList_iff.2 he) hb
          exact ih e.on this (by omega)⟩
        rw [hr] at this
        cases this
  intro fuel
  induction fuel with
  | zero =>
    intro listed a w hs hf hI
    have hall : ∀ j, j < ops.size → listed.getD j false = true := fun j hj => by
      have h0 : listed.toList.countP (fun b => !b) = 0 := by omega
      rw [List.countP_eq_zero] at h0
      have := h0 listed[j] (Array.mem_toList_iff.2 (Array.getElem_mem (by omega)))
      rw [Array.getD_eq_getD_getElem?, Array.getElem?_eq_getElem (by omega)]
      simpa using this
    refine ⟨?_, hend _ _ _ hs hI hall⟩
    rw [List.eq_nil_iff_forall_not_mem]
    intro j hj
    obtain ⟨h0, o, ho, _⟩ := mem_ready.1 hj
    have hjl : j < ops.size := (Array.getElem?_eq_some_iff.1 ho).1
    rw [hgetD hs hjl, hall j hjl] at h0
    cases h0
  | succ fuel ih =>
    intro listed a w hs hf hI
    refine ⟨fun hr => hend _ _ _ hs hI (hnone hs hr), fun i hi => ?_⟩
    obtain ⟨h0, o, ho, _⟩ := mem_ready.1 hi
    have hil : i < ops.size := (Array.getElem?_eq_some_iff.1 ho).1
    have h0' := h0
    rw [hgetD hs hil] at h0'
    refine wpOp_mono (fun a' w' hI' => ih _ a' w' (by simpa using hs) ?_ hI') (hstep listed a w i hs hI hi h0' hil)
    have hlf : listed[i]'(by omega) = false := by
      rw [Array.getD_eq_getD_getElem?, Array.getElem?_eq_getElem (by omega)] at h0; exact h0
    rw [Array.toList_setIfInBounds, List.countP_set (by simpa [hs] using hil)]
    have hpos : 0 < listed.toList.countP (fun b => !b) := List.countP_pos_iff.2 ⟨false, by rw [← hlf]; exact Array.mem_toList_iff.2 (Array.getElem_mem _), rfl⟩
    rw [Array.getElem_toList, hlf]
    simp only [Bool.not_false, if_true, Bool.not_true, Bool.false_eq_true, if_false]
    omega

/-- What is asked of the text. -/
def phiT (l : List Oper) (m n : Nat) : Bool :=
  (l.zipIdx.all fun x => x.1.after.toList.all fun e => decide (e.on < x.2)) &&
  decide (dstsOf (l.take m)).Nodup && ((dstsOf (l.take m)).all fun d => decide (d < n)) && decide (m ≤ l.length) &&
  (List.range l.length).all fun i => decide (i < m) || (List.range i).all fun j => bitOf (masksX l []) i j

theorem wp_region_phi_t {id : Nat} {w0 w : World} {H0 : Snap} {L : List Chunk} {a0 : Act} {Q : Exit → Act → World → Prop} (l : List Oper) (m : Nat) (hm : P.follows .mixedOrders = true) (hB : phiT l m a0.tmps.size = true)
    (hS : S w0 H0 w L) (Φ : Nat → Snap → Value → Prop) (hmono : ∀ i H H' v, i < m → H.Sub H' → Φ i H v → Φ i H' v)
    (hstep : ∀ (i : Nat) (o : Oper), i < m → l[i]? = some o → ∀ (H : Snap) (w : World) (a : Act) (vs : Nat → Value), H0.Sub H → S w0 H w L → (∀ t, t ∉ dstsOf (l.take m) → a.eval (.tmp t) = a0.eval (.tmp t)) →
      (∀ j, bitOf (masksX l []) i j = true → ∀ (oj : Oper) (d : Tmp), l[j]? = some oj → oj.dst = some d → a.tmps[d]? = some (vs j) ∧ Φ j H (vs j)) →
      (Region.wanted o (yielded l.toArray a.tmps) = true ∧ phiUpon P w0 L H (Φ i) ((execOp a.eval o).run P w)) ∨ (Region.wanted o (yielded l.toArray a.tmps) = false ∧ Φ i H undef))
    (hend : ∀ (H : Snap) (w : World) (vs : Nat → Value), H0.Sub H → S w0 H w L → (∀ i, i < m → Φ i H (vs i)) → wpList P l.toArray Q (l.drop m) (putAll (l.take m) vs 0 a0) w) :
    (Code.region id l.toArray true).wp P Q a0 w := by
  simp only [phiT, Bool.and_eq_true, List.all_eq_true, decide_eq_true_eq, List.mem_range, Bool.or_eq_true] at hB
  obtain ⟨⟨⟨⟨hB1, hnd⟩, hlt⟩, hml⟩, hB5⟩ := hB
  obtain ⟨_, _, hmask0⟩ := masksX_spec l []
  simp only [List.length_nil, Nat.zero_add] at hmask0
  have hedge : ∀ (i : Nat) (o : Oper), l.toArray[i]? = some o → ∀ e, e ∈ o.after.toList → Region.binds .any e = true → e.on < i := fun i o hi e he _ => by
    have hi' : l[i]? = some o := by simpa using hi
    exact hB1 (o, i) (by rw [List.mem_zipIdx_iff_getElem?]; exact hi') e he
  have hready : ∀ {listed : Array Bool} {i : Nat}, Closed (masksX l []) listed → i ∈ Region.ready .any l.toArray listed → ∀ j, bitOf (masksX l []) i j = true → listed.getD j false = true := by
    intro listed i hc hi j hj
    obtain ⟨_, o, ho, he⟩ := mem_ready.1 hi
    obtain ⟨e, hem, hb, hh⟩ := hmask0 i o (by simpa using ho) j hj
    have hl := he e (Array.mem_toList_iff.1 hem) hb
    rcases hh with rfl | ⟨_, hh⟩
    · exact hl
    · exact hc _ _ hl hh
  have hclosed : ∀ {listed : Array Bool} {i : Nat}, Closed (masksX l []) listed → i ∈ Region.ready .any l.toArray listed → i < listed.size → Closed (masksX l []) (listed.setIfInBounds i true) := by
    intro listed i hc hi hs a b ha hb
    rw [getD_set_iff hs] at ha ⊢
    rcases ha with rfl | ha
    · exact .inr (hready hc hi b hb)
    · exact .inr (hc a b ha hb)
  have htail : ∀ i, m ≤ i → i < l.length → ∀ j, j < i → bitOf (masksX l []) i j = true := fun i h1 h2 j h3 => by
    rcases hB5 i h2 with h | h
    · omega
    · exact h j h3
  refine wp_region_any hm ?_
  have fin : ∀ listed a w H vs, H0.Sub H → S w0 H w L → PhiInv l m a0 Φ H vs listed a → (∀ j, j < m → listed.getD j false = true) → wpList P l.toArray Q (l.drop m) a w := by
    intro listed a w H vs hsub hSw hI hall
    have ha := hI.all hall hml hnd (fun d hd => hlt d hd)
    rw [ha]
    exact hend H w vs hsub hSw (fun i hi => hI.phi i hi (hall i hi))
  have allOr : ∀ (listed : Array Bool), (∀ j, j < m → listed.getD j false = true) ∨ ∃ j, j < m ∧ listed.getD j false = false := fun listed => by
    by_cases h : ∃ j, j < m ∧ listed.getD j false = false
    · exact .inr h
    · exact .inl fun j hj => by
        cases hc : listed.getD j false with
        | true => rfl
        | false => exact absurd ⟨j, hj, hc⟩ h
  refine wpAny_inv hedge (fun listed a w => Closed (masksX l []) listed ∧
      ((∃ H vs, H0.Sub H ∧ S w0 H w L ∧ PhiInv l m a0 Φ H vs listed a ∧ (∀ j, m ≤ j → listed.getD j false = false) ∧ ∃ j, j < m ∧ listed.getD j false = false) ∨
       (∃ q, m ≤ q ∧ q ≤ l.length ∧ (∀ j, j < q → listed.getD j false = true) ∧ (∀ j, q ≤ j → listed.getD j false = false) ∧ wpList P l.toArray Q (l.drop q) a w))) ?_ ?_ _ _ _ _ (by simp) (by
      have := List.countP_le_length (p := fun b => !b) (l := (Array.replicate l.toArray.size false).toList)
      simpa using this) ?_
  · intro listed a w i hs hIn hi hi0 hil
    obtain ⟨hcl, hIn⟩ := hIn
    have hls : listed.size = l.length := by simpa using hs
    have hil' : i < l.length := by simpa using hil
    have hpre := hready hcl hi
    have hcl' := hclosed hcl hi (by omega)
    have hset := fun j => getD_set_iff (j := j) (listed := listed) (i := i) (by omega)
    rcases hIn with ⟨H, vs, hsub, hSw, hI, hno, k, hk, hk0⟩ | ⟨q, hmq, hq, hall, hno, h⟩
    · have him : i < m := by
        rcases Nat.lt_or_ge i m with h | h
        · exact h
        · have := hpre k (htail i h hil' k (by omega))
          rw [hk0] at this; cases this
      have ho' : l[i]? = some l[i] := List.getElem?_eq_getElem hil'
      have hst := hstep i l[i] him ho' H w a vs hsub hSw (fun t ht => eval_congr (hI.old t fun j oj hj hj2 hj3 hd => ht (List.mem_filterMap.2 ⟨oj, List.mem_of_getElem? (by rw [List.getElem?_take_of_lt hj]; exact hj2), hd⟩))) (fun j hj oj d hoj hd => by
        have hjl := hpre j hj
        have hjm : j < m := by
          rcases Nat.lt_or_ge j m with h | h
          · exact h
          · rw [hno j h] at hjl; cases hjl
        exact ⟨hI.set j oj d hjm hoj hjl hd, hI.phi j hjm hjl⟩)
      have next : ∀ H' v w', H.Sub H' → S w0 H' w' L → Φ i H' v → PhiInv l m a0 Φ H' (fun j => if j = i then v else vs j) (listed.setIfInBounds i true) (a.put l[i].dst v) := by
        intro H' v w' hs' hSw' hphi
        have hdi : ∀ d, l[i].dst = some d → d ∈ dstsOf (l.take m) := fun d hd => List.mem_filterMap.2 ⟨l[i], List.mem_of_getElem? (by rw [List.getElem?_take_of_lt him]; exact ho'), hd⟩
        have hap : ∀ (j : Nat) (oj : Oper) (d : Tmp), j < m → l[j]? = some oj → oj.dst = some d → l[i].dst = some d → j = i := fun j oj d hj hoj hd hd' =>
          filterMap_apart (l.take m) j i oj l[i] d hnd (by rw [List.getElem?_take_of_lt hj]; exact hoj) (by rw [List.getElem?_take_of_lt him]; exact ho') hd hd'
        refine ⟨by rw [put_defers]; exact hI.defers, by rw [put_size]; exact hI.size, fun j oj d hj hoj hl hd => ?_, fun t ht => ?_, fun j hj hl => ?_⟩
        · rcases (hset j).1 hl with rfl | hl2
          · rw [ho'] at hoj
            cases hoj
            rw [if_pos rfl, hd]
            exact put_same _ _ _ (by rw [hI.size]; exact hlt d (hdi d hd))
          · by_cases e : j = i
            · rw [e, hi0] at hl2; cases hl2
            · rw [if_neg e, put_ne _ _ _ _ (fun h => e (hap j oj d hj hoj hd h))]
              exact hI.set j oj d hj hoj hl2 hd
        · rw [put_ne _ _ _ _ (ht i l[i] him ho' ((hset i).2 (.inl rfl)))]
          exact hI.old t fun j oj hj hoj hl => ht j oj hj hoj ((hset j).2 (.inr hl))
        · rcases (hset j).1 hl with rfl | hl
          · rw [if_pos rfl]; exact hphi
          · by_cases e : j = i
            · subst e
              rw [if_pos rfl]; exact hphi
            · rw [if_neg e]; exact hmono j H H' _ hj hs' (hI.phi j hj hl)
      have hno' : ∀ j, m ≤ j → (listed.setIfInBounds i true).getD j false = false := fun j hj => by rw [getD_set_ne _ (by omega)]; exact hno j hj
      have nextK : ∀ H' v w', H.Sub H' → S w0 H' w' L → Φ i H' v → (Closed (masksX l []) (listed.setIfInBounds i true) ∧
          ((∃ H vs, H0.Sub H ∧ S w0 H w' L ∧ PhiInv l m a0 Φ H vs (listed.setIfInBounds i true) (a.put l[i].dst v) ∧ (∀ j, m ≤ j → (listed.setIfInBounds i true).getD j false = false) ∧ ∃ j, j < m ∧ (listed.setIfInBounds i true).getD j false = false) ∨
          (∃ q, m ≤ q ∧ q ≤ l.length ∧ (∀ j, j < q → (listed.setIfInBounds i true).getD j false = true) ∧ (∀ j, q ≤ j → (listed.setIfInBounds i true).getD j false = false) ∧ wpList P l.toArray Q (l.drop q) (a.put l[i].dst v) w'))) := by
        intro H' v w' hs' hSw' hphi
        refine ⟨hcl', ?_⟩
        have hI' := next H' v w' hs' hSw' hphi
        rcases allOr (listed.setIfInBounds i true) with hall | hex
        · exact .inr ⟨m, Nat.le_refl _, hml, hall, hno', fin _ _ _ H' _ (hsub.trans hs') hSw' hI' hall⟩
        · exact .inl ⟨H', _, hsub.trans hs', hSw', hI', hno', hex⟩
      unfold wpOp
      rw [show l.toArray[i]? = some l[i] by simp]
      dsimp only
      rcases hst with ⟨hw, hph⟩ | ⟨hw, hph⟩
      · rw [if_pos hw]
        exact .inl (phi_wp hph (fun H' v w' h1 h2 h3 => nextK H' v w' h1 h2 h3))
      · rw [hw, if_neg (by decide)]
        exact nextK H undef w (Snap.Sub.refl _) hSw hph
    · have hiq : i = q := by
        rcases Nat.lt_trichotomy i q with h | h | h
        · rw [hall i h] at hi0; cases hi0
        · exact h
        · have := hpre q (htail i (by omega) hil' q h)
          rw [hno q (Nat.le_refl _)] at this; cases this
      subst hiq
      have hdrop : l.drop i = l[i] :: l.drop (i + 1) := List.drop_eq_getElem_cons hil'
      rw [hdrop, wpList] at h
      have nextK : ∀ a w, wpList P l.toArray Q (l.drop (i + 1)) a w → (Closed (masksX l []) (listed.setIfInBounds i true) ∧
          ((∃ H vs, H0.Sub H ∧ S w0 H w L ∧ PhiInv l m a0 Φ H vs (listed.setIfInBounds i true) a ∧ (∀ j, m ≤ j → (listed.setIfInBounds i true).getD j false = false) ∧ ∃ j, j < m ∧ (listed.setIfInBounds i true).getD j false = false) ∨
          (∃ q, m ≤ q ∧ q ≤ l.length ∧ (∀ j, j < q → (listed.setIfInBounds i true).getD j false = true) ∧ (∀ j, q ≤ j → (listed.setIfInBounds i true).getD j false = false) ∧ wpList P l.toArray Q (l.drop q) a w))) := by
        intro a w h
        refine ⟨hcl', .inr ⟨i + 1, by omega, by omega, fun j hj => (hset j).2 ?_, fun j hj => ?_, h⟩⟩
        · rcases Nat.lt_or_ge j i with h | h
          · exact .inr (hall j h)
          · exact .inl (by omega)
        · rw [getD_set_ne _ (by omega)]; exact hno j (by omega)
      unfold wpOp
      rw [show l.toArray[i]? = some l[i] by simp]
      dsimp only
      split
      · rename_i hw
        rw [if_pos hw] at h
        rcases h with h | h
        · exact .inl (Oper.wp_mono nextK h)
        · exact .inr h
      · rename_i hw
        rw [if_neg hw] at h
        exact nextK _ _ h
  · intro listed a w hs hIn hall
    obtain ⟨_, ⟨_, _, _, _, _, _, k, hk, hk0⟩ | ⟨q, hmq, hq, _, hno, h⟩⟩ := hIn
    · rw [hall k (by simp; omega)] at hk0; cases hk0
    · have hqs : q = l.length := by
        rcases Nat.lt_or_ge q l.length with h | h
        · have := hall q (by simpa using h)
          rw [hno q (Nat.le_refl _)] at this; cases this
        · omega
      subst hqs
      rw [List.drop_length] at h
      exact h
  · have hf : ∀ (n j : Nat), (Array.replicate n false).getD j false = false := fun n j => by
      rw [Array.getD_eq_getD_getElem?, Array.getElem?_replicate]; split <;> rfl
    have hS' : S w0 H0 { w with drawn := w.drawn + 1 } L := hS.drew
    have hI0 : PhiInv l m a0 Φ H0 (fun _ => undef) (Array.replicate l.toArray.size false) a0 := ⟨rfl, rfl, fun j _ _ _ _ h => by rw [hf] at h; (cases h), fun _ _ => rfl, fun j _ h => by rw [hf] at h; (cases h)⟩
    refine ⟨fun i j h => by rw [hf] at h; (cases h), ?_⟩
    rcases allOr (Array.replicate l.toArray.size false) with hall | hex
    · exact .inr ⟨m, Nat.le_refl _, hml, hall, fun j _ => hf _ j, fin _ _ _ H0 _ (Snap.Sub.refl _) hS' hI0 hall⟩
    · exact .inl ⟨H0, _, Snap.Sub.refl _, hS', hI0, fun j _ => hf _ j, hex⟩
#print axioms wp_region_phi_t
end Go.Proofs.Bc
