/- The examples' contract. -/
import Derived.Test.YtglbbdailankpaaGreatDoorD3
namespace Go.Proofs.Bc
open Go
variable {P : Program}

def fnA : Option Nat → AV
  | none => .nilFunc
  | some n => fnv n
def fnVal : Option Nat → Value
  | none => .nilFunc
  | some n => .func (.func n) #[] #[]
theorem rels_fns {ι : Ren} : ∀ {l : List (Option Nat)} {vs : List Value}, vs = l.map fnVal → Rels ι (l.map fnA) vs
  | [], vs, h => by subst h; simp [Rels]
  | x :: l, vs, h => by
    subst h
    rw [List.map_cons, List.map_cons, Rels.cons_iff]
    refine ⟨_, _, ?_, rels_fns rfl, rfl⟩
    cases x with
    | none => simp only [fnA, fnVal, Rel]
    | some n =>
      simp only [fnA, fnVal, fnv, Rel, FnRel]
      exact ⟨.func n, [], [], rfl, Rels.nil_iff.2 rfl, Rels.nil_iff.2 rfl, rfl⟩

def instN : List (Option Nat) := [none, some 282, some 283, some 284, some 285, some 285, some 285, some 285, some 285, some 285, some 285, some 286, some 287, some 288, some 289, some 290, some 290, some 291]
def evalN : List (Option Nat) := [none, some 268, some 269, some 271, some 272, some 273, some 274, some 275, some 277, some 279, some 281]
theorem instL_eq : instL = instN.map fnA := rfl
theorem evalL_eq : evalL = evalN.map fnA := rfl

/-- A block opens with these functions. -/
def FnsIs (w : World) (l : Nat) (L : List (Option Nat)) : Prop := ∃ vs t fr, w.heap[l]? = some (.cells ⟨vs⟩ t fr) ∧ L.length ≤ vs.length ∧ vs.take L.length = L.map fnVal
/-- What the examples read of the package variables. -/
structure SanOK (w : World) : Prop where
  sha : ShaOK w
  inst : FnsIs w 7 instN
  evals : FnsIs w 1 evalN

theorem GlobOK.put {w : World} {h h' : Tr AObj} {l : Nat} {cs : List AV} {t : TypeId} (hg : GlobOK P w h) (e : putO (some h) l (.cells cs t) = some h') (hl : l < P.globals.size) {vs : List Value} {fr : Nat × Nat} (h1 : w.heap[l]? = some (.cells ⟨vs⟩ t fr)) (h2 : cs.length ≤ vs.length)
    (h3 : ∀ ι, Rels ι cs (vs.take cs.length)) : GlobOK P w h' := by
  obtain ⟨t0, e0, hget⟩ := putO_get e
  simp only [Option.some.injEq] at e0
  subst e0
  refine ⟨fun j hj => ?_, fun j o hj => ?_⟩
  · rw [hget] at hj
    by_cases e : j = l
    · omega
    · rw [if_neg e] at hj; exact hg.lt j hj
  · rw [hget] at hj
    by_cases e : j = l
    · subst e
      rw [if_pos rfl] at hj
      cases hj
      exact ⟨cs, t, vs, fr, rfl, h1, h2, h3⟩
    · rw [if_neg e] at hj; exact hg.at_ j o hj

theorem heap4_ok (hsz : P.globals.size = 15) {w : World} (hw : SanOK w) : ∃ t0 t3 t7 t1, ∀ h, heap4 t0 t3 t7 t1 = some h → GlobOK P w h := by
  obtain ⟨t0, t3, h2⟩ := heap2_ok (P := P) (by omega) hw.sha
  obtain ⟨v7, t7, fr7, h7, k7, r7⟩ := hw.inst
  obtain ⟨v1, t1, fr1, h1, k1, r1⟩ := hw.evals
  refine ⟨t0, t3, t7, t1, fun h hh => ?_⟩
  unfold heap4 at hh
  cases e2 : heap2 t0 t3 with
  | none => rw [e2] at hh; cases hh
  | some hA =>
    rw [e2] at hh
    cases e3 : putO (some hA) 7 (.cells instL t7) with
    | none => rw [e3] at hh; cases hh
    | some hB =>
      rw [e3] at hh
      have g1 := (h2 hA e2).put e3 (by omega) h7 (by rw [instL_eq, List.length_map]; exact k7) (fun ι => by rw [instL_eq, List.length_map]; exact rels_fns r7)
      exact g1.put hh (by omega) h1 (by rw [evalL_eq, List.length_map]; exact k1) (fun ι => by rw [evalL_eq, List.length_map]; exact rels_fns r1)

theorem sanity_of (hsz : P.globals.size = 15) (hm : P.follows .mixedOrders = true) (hK : KnownOK P K1) (hb : hasBody P 4 = true)
    (hrun : ∀ t0 t3 t7 t1, ∃ h st', heap4 t0 t3 t7 t1 = some h ∧ (tools P K1 300).call 4 [] { h := h, c := 15, lo := 15 } = some (.bool true, st'))
    (w : World) (hw : SanOK w) : Calls P 4 #[] w fun e w' => e = .returned (.bool true) ∧ Grown w w' := by
  obtain ⟨t0, t3, t7, t1, hg⟩ := heap4_ok hsz hw
  obtain ⟨h, st', hh, hr⟩ := hrun t0 t3 t7 t1
  have hI := (hg h hh).inv
  rw [hsz] at hI
  refine (callsIn_wide (n := 0)).1 ((closed_call hm hK hr hb hI (vs := []) (Rels.nil_iff.2 rfl) 0).mono ?_)
  rintro e w' ⟨u, rfl, ⟨ι', hrel⟩, hgr⟩
  simp only [Rel] at hrel
  exact ⟨by rw [hrel], hgr⟩

theorem sane_runs (t0 t3 t7 t1 : TypeId) : ∃ h st', heap4 t0 t3 t7 t1 = some h ∧ (tools Tryz.prog K1 300).call 4 [] { h := h, c := 15, lo := 15 } = some (.bool true, st') := by
  have h := sane_run t0 t3 t7 t1
  unfold saneB at h
  split at h
  · rename_i h2 hh
    obtain ⟨st', hst⟩ := sameRes_inv h
    exact ⟨h2, st', hh, hst⟩
  · cases h
theorem sanity_body : hasBody Tryz.prog 4 = true := by kernel_rfl
set_option maxRecDepth 100000 in
/-- The examples hold, whatever the world in which the four variables hold what the text lays; what lay before lies so still. -/
theorem sanity_any (w : World) (hw : SanOK w) : Calls Tryz.prog 4 #[] w fun e w' => e = .returned (.bool true) ∧ Grown w w' :=
  sanity_of (P := Tryz.prog) globals_size mixed_orders K1_ok sanity_body sane_runs w hw
#print axioms sanity_any
end Go.Proofs.Bc
