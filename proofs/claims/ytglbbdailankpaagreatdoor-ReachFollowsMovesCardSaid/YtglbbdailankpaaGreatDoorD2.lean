/- manifest.StageDigest's contract, and what is known for the examples' own run. -/
import Derived.Test.YtglbbdailankpaaGreatDoorD1
namespace Go.Proofs.Bc
open Go
variable {P : Program}

theorem rels_ints {k : IntKind} {ι : Ren} : ∀ {l : List Nat} {vs : List Value}, Rels ι (l.map fun n => .int k (.ofNat n)) vs ↔ vs = l.map fun n => .int k (.ofNat n)
  | [], vs => by simp [Rels]
  | n :: l, vs => by
    rw [List.map_cons, List.map_cons, Rels.cons_iff]
    constructor
    · rintro ⟨v, r, h1, h2, rfl⟩
      simp only [Rel] at h1
      rw [h1, rels_ints.1 h2]
    · rintro rfl
      exact ⟨_, _, by simp only [Rel], rels_ints.2 rfl, rfl⟩

/-- A closed run: all that lies is as it lay. -/
theorem closed_call (hm : P.follows .mixedOrders = true) {K : Known} (hK : KnownOK P K) {m c : Nat} {g : FuncId} {h : Tr AObj} {args : List AV} {v : AV} {st' : St} (hrun : (tools P K m).call g args { h := h, c := c, lo := c } = some (v, st')) (hb : hasBody P g = true)
    {ι : Ren} {w : World} (hI : Inv P ι { h := h, c := c, lo := c } w) {vs : List Value} (hv : Rels ι args vs) (n : Nat) : CallsIn Fence.wide n P g ⟨vs⟩ w fun e w' => ∃ u, e = .returned u ∧ (∃ ι', Rel ι' v u) ∧ Grown w w' := by
  refine (exec_calls hm hK hrun hb hv hI n).mono ?_
  rintro e w' ⟨u, rfl, ι', hrel, hp⟩
  exact ⟨u, rfl, ⟨ι', hrel⟩, hp.evo.os, hp.evo.tape, hp.evo.output, hp.evo.size, fun b hb => hp.evo.same b hb fun l n h1 h2 _ => absurd (hI.lt l h2) (Nat.not_lt.2 h1)⟩

/-- Package variables with known cells: a heap to start from. -/
theorem putO_get {h : Option (Tr AObj)} {l : Nat} {o : AObj} {t : Tr AObj} (e : putO h l o = some t) : ∃ t0, h = some t0 ∧ ∀ j, t.get j = if j = l then some o else t0.get j := by
  unfold putO at e
  split at e
  · rename_i t0
    exact ⟨t0, rfl, Tr.get_put _ _ _ _ _ e⟩
  · cases e

/-- What lies in package variables, told by their cells. -/
structure GlobOK (P : Program) (w : World) (h : Tr AObj) : Prop where
  lt : ∀ l, h.get l ≠ none → l < P.globals.size
  at_ : ∀ l o, h.get l = some o → ∃ cs t vs fr, o = .cells cs t ∧ w.heap[l]? = some (.cells ⟨vs⟩ t fr) ∧ cs.length ≤ vs.length ∧ ∀ ι, Rels ι cs (vs.take cs.length)

/-- The number of a block's cells. -/
def cellsIn (w : World) (b : Nat) : Nat := match w.heap[b]? with
  | some (.cells c _ _) => c.size
  | _ => 0
def globRen (n : Nat) (w : World) : Ren := fun l => if l < n then some (l, cellsIn w l) else none

theorem GlobOK.inv {w : World} {h : Tr AObj} (hg : GlobOK P w h) : Inv P (globRen P.globals.size w) { h := h, c := P.globals.size, lo := P.globals.size } w := by
  refine ⟨⟨fun l o hl => ?_, fun l m b n k hl hm hi hj => ?_⟩, hg.lt, Nat.le_refl _, Nat.le_refl _, fun g hgg => ⟨_, by unfold globRen; rw [if_pos hgg]⟩, fun l hl => by unfold globRen; rw [if_neg (Nat.not_lt.2 hl)]⟩
  · obtain ⟨cs, t, vs, fr, rfl, h1, hlen, h2⟩ := hg.at_ l o hl
    have hlt := hg.lt l (by rw [hl]; simp)
    refine ⟨l, cellsIn w l, _, by unfold globRen; rw [if_pos hlt], h1, ?_, fun hle => absurd hlt (Nat.not_lt.2 hle)⟩
    simp only [ORel]
    exact ⟨vs, fr, rfl, by simp [cellsIn, h1], by simp [cellsIn, h1, hlen], h2 _⟩
  · unfold globRen at hi hj
    split at hi
    · split at hj
      · simp only [Option.some.injEq, Prod.mk.injEq] at hi hj
        rw [hi.1, hj.1]
      · cases hj
    · cases hi

theorem sameRes_inv {v : AV} {r : Option (AV × St)} (h : sameRes v r = true) : ∃ st', r = some (v, st') := by
  unfold sameRes at h
  split at h
  · rename_i u st'
    exact ⟨st', by rw [same_eq _ _ h]⟩
  · cases h

/-- A block opens with these integers. -/
def TabIs (w : World) (l : Nat) (k : IntKind) (L : List Nat) : Prop := ∃ vs t fr, w.heap[l]? = some (.cells ⟨vs⟩ t fr) ∧ L.length ≤ vs.length ∧ vs.take L.length = L.map fun n => .int k (.ofNat n)
/-- What must lie in the tables of sha. -/
structure ShaOK (w : World) : Prop where
  start : TabIs w 0 .u32 startL
  consts : TabIs w 3 .u32 constL

def digV : Value := .agg ⟨digL.map fun n => .int .u8 (.ofNat n)⟩
theorem rel_dig {ι : Ren} {u : Value} : Rel ι dig u ↔ u = digV := by
  unfold dig digV
  simp only [Rel]
  constructor
  · rintro ⟨vs, h1, rfl⟩; rw [rels_ints.1 h1]
  · rintro rfl; exact ⟨_, rels_ints.2 rfl, rfl⟩

theorem heap2_ok (hsz : 3 < P.globals.size) {w : World} (hs : ShaOK w) : ∃ t0 t3, ∀ h, heap2 t0 t3 = some h → GlobOK P w h := by
  obtain ⟨v0, t0, fr0, h0, k0, r0⟩ := hs.start
  obtain ⟨v3, t3, fr3, h3, k3, r3⟩ := hs.consts
  refine ⟨t0, t3, fun h hh => ?_⟩
  unfold heap2 at hh
  obtain ⟨h1, hh1, g1⟩ := putO_get hh
  obtain ⟨h2, hh2, g2⟩ := putO_get hh1
  simp only [Option.some.injEq] at hh2
  subst hh2
  have hget : ∀ l, h.get l = if l = 3 then some (.cells (u32s constL) t3) else if l = 0 then some (.cells (u32s startL) t0) else none := fun l => by
    rw [g1, g2]
    simp [Tr.get]
  refine ⟨fun l hl => ?_, fun l o hl => ?_⟩
  · rw [hget] at hl
    split at hl
    · omega
    · split at hl
      · omega
      · exact absurd rfl hl
  · rw [hget] at hl
    split at hl
    · rename_i e
      subst e
      simp only [Option.some.injEq] at hl
      subst hl
      exact ⟨_, _, v3, fr3, rfl, h3, by simpa [u32s] using k3, fun ι => rels_ints.2 (by simpa [u32s] using r3)⟩
    · split at hl
      · rename_i e
        subst e
        simp only [Option.some.injEq] at hl
        subst hl
        exact ⟨_, _, v0, fr0, rfl, h0, by simpa [u32s] using k0, fun ι => rels_ints.2 (by simpa [u32s] using r0)⟩
      · cases hl

def tabOK (st : St) (l : Nat) (vs : List AV) : Bool := match st.h.get l with
  | some (.cells cs _) => AV.sames cs vs
  | _ => false
theorem tabOK_spec {st : St} {l : Nat} {L : List Nat} {k : IntKind} (h : tabOK st l (L.map fun n => .int k (.ofNat n)) = true) {ι : Ren} {w : World} (hI : Inv P ι st w) (hl : l < P.globals.size) : TabIs w l k L := by
  unfold tabOK at h
  split at h
  · rename_i cs t hg
    have := sames_eq _ _ h
    subst this
    obtain ⟨b, n, ob, h1, h2, h3, _⟩ := hI.heap.at_ l _ hg
    obtain ⟨n', hn'⟩ := hI.glob l hl
    rw [h1] at hn'
    cases hn'
    simp only [ORel] at h3
    obtain ⟨vs, fr, rfl, h4, h5, h6⟩ := h3
    have h8 := rels_ints.1 h6
    exact ⟨vs, t, fr, h2, by simp only [List.length_map] at h5; omega, by simpa using h8⟩
  · cases h

/-- What is known: the stage's digest, and the rest. -/
def K1 : Known := fun g args st => match Nat.beq g 9 with
  | true => (match args, tabOK st 0 (u32s startL), tabOK st 3 (u32s constL) with
    | [a], true, true => (match AV.same a textA with
      | true => some dig
      | false => none)
    | _, _, _ => none)
  | false => K0 g args st

theorem K1_ok_of (hsz : 3 < P.globals.size) (hK : KnownOK P K0) (hb : hasBody P 9 = true)
    (hdig : ∀ w, ShaOK w → ∀ n, CallsIn Fence.wide n P 9 #[.string ⟨#[97, 99, 99, 101, 112, 116, 59]⟩] w fun e w' => e = .returned digV ∧ Grown w w') : KnownOK P K1 := by
  intro g args st v h ι w vs hv hI
  unfold K1 at h
  split at h
  · rename_i hg
    have := beqT.1 hg
    subst this
    split at h
    · rename_i a h0 h3
      split at h
      · rename_i hsame
        simp only [Option.some.injEq] at h
        subst h
        have ha := same_eq _ _ hsame
        subst ha
        rw [Rels.cons_iff] at hv
        obtain ⟨va, us, hva, hv, rfl⟩ := hv
        rw [Rels.nil_iff] at hv
        subst hv
        simp only [textA, Rel] at hva
        subst hva
        have hsha : ShaOK w := ⟨tabOK_spec h0 hI (by omega), tabOK_spec h3 hI (by omega)⟩
        rw [run_callFunc_body hb]
        refine ⟨rfl, fun n => (hdig w hsha n).mono ?_⟩
        rintro e w' ⟨rfl, hgr⟩
        exact ⟨_, rfl, ι, rel_dig.2 rfl, Post.grown hI hgr⟩
      · cases h
    · cases h
  · exact hK _ _ _ _ h ι w vs hv hI

theorem dig_of (hsz : P.globals.size = 15) (hm : P.follows .mixedOrders = true) (hK : KnownOK P K0) (hb : hasBody P 9 = true)
    (hrun : ∀ t0 t3, ∃ h st', heap2 t0 t3 = some h ∧ (tools P K0 300).call 9 [textA] { h := h, c := 15, lo := 15 } = some (dig, st'))
    (w : World) (hw : ShaOK w) (n : Nat) : CallsIn Fence.wide n P 9 #[.string ⟨#[97, 99, 99, 101, 112, 116, 59]⟩] w fun e w' => e = .returned digV ∧ Grown w w' := by
  obtain ⟨t0, t3, hg⟩ := heap2_ok (P := P) (by omega) hw
  obtain ⟨h, st', hh, hr⟩ := hrun t0 t3
  have hI := (hg h hh).inv
  rw [hsz] at hI
  refine (closed_call hm hK hr hb hI (vs := [.string ⟨#[97, 99, 99, 101, 112, 116, 59]⟩]) (Rels.cons_iff.2 ⟨_, [], by simp only [textA, Rel], Rels.nil_iff.2 rfl, rfl⟩) n).mono ?_
  rintro e w' ⟨u, rfl, ⟨ι', hrel⟩, hgr⟩
  exact ⟨by rw [rel_dig.1 hrel], hgr⟩

theorem dig_runs (t0 t3 : TypeId) : ∃ h st', heap2 t0 t3 = some h ∧ (tools Tryz.prog K0 300).call 9 [textA] { h := h, c := 15, lo := 15 } = some (dig, st') := by
  have h := dig_run t0 t3
  unfold digB at h
  split at h
  · rename_i h2 hh
    obtain ⟨st', hst⟩ := sameRes_inv h
    exact ⟨h2, st', hh, hst⟩
  · cases h
theorem globals_size : Tryz.prog.globals.size = 15 := by kernel_rfl
theorem mixed_orders : Tryz.prog.follows .mixedOrders = true := by kernel_rfl
theorem dig_body : hasBody Tryz.prog 9 = true := by kernel_rfl
set_option maxRecDepth 100000 in
theorem dig_any (w : World) (hw : ShaOK w) (n : Nat) : CallsIn Fence.wide n Tryz.prog 9 #[.string ⟨#[97, 99, 99, 101, 112, 116, 59]⟩] w fun e w' => e = .returned digV ∧ Grown w w' :=
  dig_of (P := Tryz.prog) globals_size mixed_orders K0_ok dig_body dig_runs w hw n
set_option maxRecDepth 100000 in
theorem K1_ok : KnownOK Tryz.prog K1 := K1_ok_of (P := Tryz.prog) (by rw [globals_size]; decide) K0_ok dig_body dig_any
#print axioms K1_ok
end Go.Proofs.Bc
