/- From what the row lists to what the walk asks. -/
import Derived.Test.YtglbbdailankpaaGreatDoorD4
import Derived.Test.YtglbbdailankpaaGreatDoorRows
import Derived.Lib.LaidU8
import Derived.LaidMore
import Derived.LaidSub
import Derived.OpenShut
namespace Go.Proofs.Bc
open Go
variable {P : Program}

section
variable {H : Type} {enc : TypeId × Value → H} {W : World} {sp : Nat → Bool} {held : Bool} {fuel : Nat} {t e : TypeId} {n : Nat} {cs : List Value} {p : List MemPlace}

/-- The cells of an array, each with its reading. -/
theorem array_each {ds : List (DataW H)} (ht : P.underlying t = some (.array n e)) (hc : P.cellsOf e = 1) (hd : DataW.trod enc P W 0 sp held fuel t cs = some (.agg ds, p)) :
    ds.length = n ∧ cs.length = P.cellsOf t ∧ ∀ (i : Nat) d, ds[i]? = some d → ∃ m q, DataW.trod enc P W 0 sp held m e ((cs.drop i).take 1) = some (d, q) := by
  obtain ⟨xs, m, _, ex, hcl, hl, hel⟩ := DataW.trod_array ht hd
  have e3 : xs.map (·.1) = ds := (DataW.agg.inj (Prod.mk.inj ex).1).symm
  refine ⟨by rw [← e3, List.length_map]; exact hl, hcl, fun i d hi => ?_⟩
  have hin : i < xs.length := by
    rw [← e3] at hi
    have := (List.getElem?_eq_some_iff.1 hi).1
    simpa using this
  have hE := hel i (by omega)
  rw [hc, Nat.mul_one, List.getElem?_eq_getElem hin] at hE
  rw [← e3, List.getElem?_map, List.getElem?_eq_getElem hin] at hi
  simp only [Option.map_some, Option.some.injEq] at hi
  exact ⟨m, xs[i].2, by rw [hE, ← hi]⟩
theorem one_cell {i : Nat} {v : Value} (h : (cs.drop i).take 1 = [v]) : cs[i]? = some v := by
  have h0 : ((cs.drop i).take 1)[0]? = some v := by rw [h]; rfl
  simpa using h0

theorem ints_of_reads {k : IntKind} {L : List Nat} (ht : P.underlying t = some (.array n e)) (he : P.underlying e = some (.int k)) (hc : P.cellsOf e = 1) (hct : P.cellsOf t = L.length)
    (hd : DataW.trod enc P W 0 sp held fuel t cs = some (.agg (L.map fun z => .lit (.int k (.ofNat z))), p)) : L.length ≤ cs.length ∧ cs.take L.length = L.map fun z => .int k (.ofNat z) := by
  obtain ⟨h1, h2, h3⟩ := array_each ht hc hd
  have hlen : cs.length = L.length := h2.trans hct
  refine ⟨by omega, ?_⟩
  rw [← hlen, List.take_length]
  apply List.ext_getElem?
  intro i
  by_cases hi : i < L.length
  · obtain ⟨m, q, hE⟩ := h3 i (.lit (.int k (.ofNat L[i]))) (by rw [List.getElem?_map, List.getElem?_eq_getElem hi]; rfl)
    obtain ⟨z, e1, e2, _⟩ := DataW.trod_int he hE
    have hz : z = .ofNat L[i] := by
      have := (Prod.mk.inj e2).1
      simp only [DataW.lit.injEq, Lit.int.injEq, true_and] at this
      exact this.symm
    rw [one_cell e1, hz, List.getElem?_map, List.getElem?_eq_getElem hi]
    rfl
  · rw [List.getElem?_eq_none (by omega), List.getElem?_eq_none (by simp; omega)]
end

/-- A cell of function type that reads as nil. -/
theorem nil_of_trod {w : World} {base : Nat} {sp : Nat → Bool} {fuel : Nat} {t : TypeId} {ps rs : Array TypeId} {va : Bool} {v : Value} {q : List MemPlace}
    (ht : P.underlying t = some (.func ps rs va)) (h : DataW.trod (funcToken P) P w base sp true fuel t [v] = some (.nil, q)) : v = .nilFunc := by
  cases fuel with
  | zero => simp [DataW.trod] at h
  | succ n => cases v <;> simp [DataW.trod, ht] at h ⊢

/-- Each name on the list is one function's. -/
def fnB (P : Program) : DataW (List UInt8) × Option Nat → Bool
  | (.nil, none) => true
  | (.held (b :: r), some f) => ((List.range P.funcs.size).filter fun f => (P.funcs[f]?).any (·.name.toUTF8.data.toList == b :: r)) == [f]
  | _ => false

theorem fns_of_reads {W : World} {sp : Nat → Bool} {fuel : Nat} {t e : TypeId} {n : Nat} {cs : List Value} {p : List MemPlace} {ps rs : Array TypeId} {va : Bool} {D : List (DataW (List UInt8))} {N : List (Option Nat)}
    (ht : P.underlying t = some (.array n e)) (he : P.underlying e = some (.func ps rs va)) (hc : P.cellsOf e = 1) (hct : P.cellsOf t = N.length) (hl : D.length = N.length) (hB : (D.zip N).all (fnB P) = true)
    (hd : DataW.trod (funcToken P) P W 0 sp true fuel t cs = some (.agg D, p)) : N.length ≤ cs.length ∧ cs.take N.length = N.map fnVal := by
  obtain ⟨h1, h2, h3⟩ := array_each ht hc hd
  have hlen : cs.length = N.length := h2.trans hct
  refine ⟨by omega, ?_⟩
  rw [← hlen, List.take_length]
  apply List.ext_getElem?
  intro i
  by_cases hi : i < N.length
  · have hiD : i < D.length := by omega
    have hic : i < cs.length := by omega
    obtain ⟨m, q, hE⟩ := h3 i D[i] (List.getElem?_eq_getElem hiD)
    have h1c : (cs.drop i).take 1 = [cs[i]] := by
      rw [List.drop_eq_getElem_cons hic]; rfl
    rw [h1c] at hE
    have hb := List.all_eq_true.1 hB (D[i], N[i]) (List.mem_of_getElem? (List.getElem?_zip_eq_some.2 ⟨List.getElem?_eq_getElem hiD, List.getElem?_eq_getElem hi⟩))
    rw [List.getElem?_eq_getElem hic, List.getElem?_map, List.getElem?_eq_getElem hi]
    generalize D[i] = d at hE hb
    generalize N[i] = o at hb
    generalize cs[i] = v at hE
    unfold fnB at hb
    split at hb
    · rename_i heq
      cases heq
      rw [nil_of_trod he hE]; rfl
    · rename_i b r f heq
      cases heq
      rw [func_of_trod he (by simpa using hb) hE]; rfl
    · cases hb
  · rw [List.getElem?_eq_none (by omega), List.getElem?_eq_none (by simp; omega)]

/-- A variable's block. -/
theorem block_of_var {W : World} {name : String} {g : Nat} {cs : Array Value} (hg : P.globalNamed name = some g) (h : W.var? P name = some cs) : ∃ t fr, W.heap[g]? = some (.cells ⟨cs.toList⟩ t fr) := by
  simp only [World.var?, hg, Option.bind_some] at h
  split at h
  · rename_i c t fr hb
    cases h
    exact ⟨t, fr, hb⟩
  · cases h

abbrev laidL : List (String × DataW Unit) := YtglbbdailankpaaGreatDoor.Rows.reachFollowsMovesRow.laid
theorem laid_plain {W : World} (h : laidMetH P laidL W) : laidMet P (laidL.filter fun x => x.2.handleName?.isNone) W := (laidMetH_iff.1 h).1
def innerOf {H : Type} : DataW H → DataW H
  | .iface _ d => d
  | d => d
def partsOf {H : Type} : DataW H → List (DataW H)
  | .agg ps => ps
  | _ => []

theorem start_of_laid {W : World} (h : laidMetH Tryz.prog laidL W) : TabIs W 0 .u32 startL := by
  have hm : ("bootchain/sha.start", (.agg (startL.map fun z => .lit (.int .u32 (.ofNat z))) : DataW Unit)) ∈ laidL.filter fun x => x.2.handleName?.isNone :=
    List.mem_filter.2 ⟨by simp only [laidL, YtglbbdailankpaaGreatDoor.Rows.reachFollowsMovesRow, List.mem_cons]; exact (.inr (.inr (.inr (.inr (.inr (.inr (.inr (.inr (.inr (.inl rfl)))))))))), rfl⟩
  obtain ⟨g, t, cs, fuel, p, hg, ht, hv, hd⟩ := Lib.laidMet.reads (laid_plain h) hm
  obtain rfl := Option.some.inj ((show Tryz.prog.globalNamed "bootchain/sha.start" = some 0 by kernel_rfl).symm.trans hg)
  obtain rfl := Option.some.inj ((show (Tryz.prog.globals[0]?).map (·.type) = some 135 by kernel_rfl).symm.trans ht)
  obtain ⟨tt, fr, hb⟩ := block_of_var hg hv
  obtain ⟨h1, h2⟩ := ints_of_reads (L := startL) (k := .u32) (n := 8) (e := 129) (by kernel_rfl) (by kernel_rfl) (by kernel_rfl) (by kernel_rfl) hd
  exact ⟨_, tt, fr, hb, h1, h2⟩
theorem constants_of_laid {W : World} (h : laidMetH Tryz.prog laidL W) : TabIs W 3 .u32 constL := by
  have hm : ("bootchain/sha.constants", (.agg (constL.map fun z => .lit (.int .u32 (.ofNat z))) : DataW Unit)) ∈ laidL.filter fun x => x.2.handleName?.isNone :=
    List.mem_filter.2 ⟨by simp only [laidL, YtglbbdailankpaaGreatDoor.Rows.reachFollowsMovesRow, List.mem_cons]; exact (.inr (.inr (.inr (.inr (.inr (.inr (.inr (.inr (.inl rfl))))))))), rfl⟩
  obtain ⟨g, t, cs, fuel, p, hg, ht, hv, hd⟩ := Lib.laidMet.reads (laid_plain h) hm
  obtain rfl := Option.some.inj ((show Tryz.prog.globalNamed "bootchain/sha.constants" = some 3 by kernel_rfl).symm.trans hg)
  obtain rfl := Option.some.inj ((show (Tryz.prog.globals[3]?).map (·.type) = some 177 by kernel_rfl).symm.trans ht)
  obtain ⟨tt, fr, hb⟩ := block_of_var hg hv
  obtain ⟨h1, h2⟩ := ints_of_reads (L := constL) (k := .u32) (n := 64) (e := 129) (by kernel_rfl) (by kernel_rfl) (by kernel_rfl) (by kernel_rfl) hd
  exact ⟨_, tt, fr, hb, h1, h2⟩
theorem inst_of_laid {W : World} (h : laidMetH Tryz.prog laidL W) : FnsIs W 7 instN := by
  have hm : ("bootchain/vm.instructions", (.iface "func table" (innerOf YtglbbdailankpaaGreatDoor.Rows.laid_bootchain_vm_instructions) : DataW Unit)) ∈ laidL := by
    simp only [laidL, YtglbbdailankpaaGreatDoor.Rows.reachFollowsMovesRow, List.mem_cons]; exact (.inr (.inr (.inr (.inr (.inr (.inl rfl))))))
  obtain ⟨g, t, cs, fuel, p, hg, ht, hv, hd0⟩ := h.funcs hm
  have hd : DataW.trod (funcToken Tryz.prog) Tryz.prog W 0 (fun _ => true) true fuel t cs.toList = some (.agg (partsOf (innerOf YtglbbdailankpaaGreatDoor.Rows.laid_bootchain_vm_instructions).funcsOut), p) := hd0
  obtain rfl := Option.some.inj ((show Tryz.prog.globalNamed "bootchain/vm.instructions" = some 7 by kernel_rfl).symm.trans hg)
  obtain rfl := Option.some.inj ((show (Tryz.prog.globals[7]?).map (·.type) = some 323 by kernel_rfl).symm.trans ht)
  obtain ⟨tt, fr, hb⟩ := block_of_var hg hv
  obtain ⟨h1, h2⟩ := fns_of_reads (N := instN) (n := 18) (e := 322) (by kernel_rfl) Tryz.underlying322 (by kernel_rfl) (by kernel_rfl) (by kernel_rfl) (by kernel_rfl) hd
  exact ⟨_, tt, fr, hb, h1, h2⟩
theorem evals_of_laid {W : World} (h : laidMetH Tryz.prog laidL W) : FnsIs W 1 evalN := by
  have hm : ("bootchain/policy.evaluators", (.iface "func table" (innerOf YtglbbdailankpaaGreatDoor.Rows.laid_bootchain_policy_evaluators) : DataW Unit)) ∈ laidL := by
    simp only [laidL, YtglbbdailankpaaGreatDoor.Rows.reachFollowsMovesRow, List.mem_cons]; exact (.inr (.inr (.inr (.inr (.inr (.inr (.inr (.inr (.inr (.inr (.inr (.inl rfl))))))))))))
  obtain ⟨g, t, cs, fuel, p, hg, ht, hv, hd0⟩ := h.funcs hm
  have hd : DataW.trod (funcToken Tryz.prog) Tryz.prog W 0 (fun _ => true) true fuel t cs.toList = some (.agg (partsOf (innerOf YtglbbdailankpaaGreatDoor.Rows.laid_bootchain_policy_evaluators).funcsOut), p) := hd0
  obtain rfl := Option.some.inj ((show Tryz.prog.globalNamed "bootchain/policy.evaluators" = some 1 by kernel_rfl).symm.trans hg)
  obtain rfl := Option.some.inj ((show (Tryz.prog.globals[1]?).map (·.type) = some 163 by kernel_rfl).symm.trans ht)
  obtain ⟨tt, fr, hb⟩ := block_of_var hg hv
  obtain ⟨h1, h2⟩ := fns_of_reads (N := evalN) (n := 11) (e := 162) (by kernel_rfl) Tryz.underlying162 (by kernel_rfl) (by kernel_rfl) (by kernel_rfl) (by kernel_rfl) hd
  exact ⟨_, tt, fr, hb, h1, h2⟩
theorem san_of_laid {W : World} (h : laidMetH Tryz.prog laidL W) : SanOK W := ⟨⟨start_of_laid h, constants_of_laid h⟩, inst_of_laid h, evals_of_laid h⟩
#print axioms san_of_laid
end Go.Proofs.Bc
