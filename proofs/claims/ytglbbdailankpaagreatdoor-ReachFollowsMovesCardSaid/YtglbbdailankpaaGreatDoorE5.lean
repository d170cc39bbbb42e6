/- For every secret, every route of devices and every early device, law 38 ReachFollowsMoves returns true and leaves its arguments as they were: the row and its tied card. Conditions: the thirteen listed package variables read as the text of the program lays them (tied); parse.operators may hold anything. -/
import Derived.Test.YtglbbdailankpaaGreatDoorE3
import Derived.Test.YtglbbdailankpaaGreatDoorE4
import Derived.ProofKit
import Derived.OpenShut
import Derived.Lay
import Derived.Stop.Joined
import Derived.Test.YtglbbdailankpaaGreatDoorTie
import Derived.Test.YtglbbdailankpaaGreatDoorCards
import Derived.SevenTiedAt
namespace Go.Proofs.Bc
open Go Go.ChangeShapes Go.WideShapes Go.ChangeAt Go.RowKit

/-! ### The witness: a world in which each listed variable lies -/
def setCells (vs : List Value) : Obj → Obj
  | .cells _ t fr => .cells ⟨vs⟩ t fr
  | o => o
noncomputable def base0 (os : Os) : World :=
  { World.holding Tryz.prog os ⟨#[], #[], []⟩ with heap := ((World.holding Tryz.prog os ⟨#[], #[], []⟩).heap.modify 7 (setCells (instN.map fnVal))).modify 1 (setCells (evalN.map fnVal)) }
abbrev laidN : List (String × DataW Unit) := laidL.filter fun x => x.2.handleName?.isNone
noncomputable def start0 (os : Os) : World := (base0 os).layVars Tryz.prog laidN
theorem start0_os (os : Os) : (start0 os).os = os := (World.layVars_os _ _ _).trans rfl
theorem start0_plain (os : Os) (args : Array Value) : laidMet Tryz.prog laidN ((start0 os).forCall (fun _ _ => 0) ⟨#[], args, []⟩).memory := by
  have e1 : (laidN.filter fun x => (laidN.map (·.1)).contains x.1) = laidN := List.filter_eq_self.2 fun x hx => List.contains_iff_mem.2 (List.mem_map.2 ⟨x, hx, rfl⟩)
  have e2 : (laidN.filter fun x => !(laidN.map (·.1)).contains x.1) = [] := List.filter_eq_nil_iff.2 fun x hx => by rw [List.contains_iff_mem.2 (List.mem_map.2 ⟨x, hx, rfl⟩)]; simp
  have hf : (base0 os).layFits Tryz.prog laidN [] = true := by kernel_rfl
  have hi : (base0 os).layIfaces Tryz.prog laidN (start0 os) = true := by kernel_rfl
  have h : laidMet Tryz.prog laidN (start0 os) := laidMet_layVars (w0 := base0 os) (laidN.map (·.1)) [] (by rw [e1]; rfl) (by rw [e1]; exact hf) (by rw [e1]; exact hi) (by rw [e2]; exact LaidIn.none)
  exact h.of_heap (by simp [World.memory, World.forCall, Input.heap])
theorem start0_met (os : Os) (args : Array Value) : laidMetH Tryz.prog laidL ((start0 os).forCall (fun _ _ => 0) ⟨#[], args, []⟩).memory :=
  laidMetH_of_parts3 (fuel := 8) (start0_plain os args) (by kernel_rfl) (by kernel_rfl)

theorem own : ownKnob Tryz.prog.godebug = none := by kernel_rfl
theorem laidOut : laidOutB Tryz.prog = true := by kernel_rfl
theorem cells_u8 : Tryz.prog.cellsOf 5 = 1 := by kernel_rfl

theorem wf_u8 {n : Int} (h : (Lit.int .u8 n).wf = true) : ∃ b : UInt8, n = (b.toNat : Int) := by
  have hh : IntKind.u8.min ≤ n ∧ n ≤ IntKind.u8.max := by simpa [Lit.wf] using h
  have h1 : (0 : Int) ≤ n := hh.1
  have h2 : n ≤ (255 : Int) := hh.2
  exact ⟨UInt8.ofNat n.toNat, by rw [UInt8.toNat_ofNat']; omega⟩

/-- Numbers of one byte, as bytes. -/
theorem bytes_of : ∀ (zs : List Int), (∀ n ∈ zs, (Lit.int .u8 n).wf = true) → ∃ bs : List UInt8, zs = bs.map fun b => (b.toNat : Int)
  | [], _ => ⟨[], rfl⟩
  | z :: zs, h => by
    obtain ⟨b, hb⟩ := wf_u8 (h z (by simp))
    obtain ⟨bs, hbs⟩ := bytes_of zs (fun n hn => h n (by simp [hn]))
    exact ⟨b :: bs, by rw [hb, hbs]; rfl⟩

/-- The route that came in reads as bytes. -/
theorem route_of {H : Type} {enc : TypeId × Value → H} {W : World} {a0 : Option Addr} {len cap : Nat} {d : DataW H} {p : List MemPlace} (h : DataW.Trod enc Tryz.prog W 0 (fun _ => true) true 22 (.slice a0 len cap) d p) :
    ∃ bs : List UInt8, Rd (snapOf W) 1 bcell (.slice a0 len cap) bs := by
  obtain ⟨fuel, hf⟩ := h
  rcases open_ints Tryz.underlying22 Tryz.underlying5 cells_u8 hf with ⟨hcs, _⟩ | ⟨a, len', cap', zs, hcs, _, hl, hm, hz, _, hcell, hwz⟩
  · simp [Value.cells] at hcs
    obtain ⟨rfl, rfl, rfl⟩ := hcs
    exact ⟨[], Rd.nil _ _ _⟩
  · simp [Value.cells] at hcs
    obtain ⟨rfl, rfl, rfl⟩ := hcs
    simp only [if_true] at hz
    obtain ⟨bs, rfl⟩ := bytes_of zs hwz
    simp only [List.length_map] at hz
    have hlen : (bs.take len).length = len := by rw [List.length_take]; omega
    refine ⟨bs.take len, some a, cap, by rw [hlen], by omega, hm, fun hp => ?_⟩
    rw [hlen] at hp
    have h0 := hcell 0 (by simp only [List.length_map]; omega)
    obtain ⟨b, off, spot⟩ := a
    have hspot : spot = none := by simpa [Addr.add] using World.cell?_spot h0
    subst hspot
    refine ⟨b, off, rfl, fun i x hx j u hu => ?_⟩
    have hil : i < len := by
      have := (List.getElem?_eq_some_iff.1 hx).1
      omega
    rw [List.getElem?_take_of_lt hil] at hx
    have hib : i < bs.length := (List.getElem?_eq_some_iff.1 hx).1
    cases j with
    | succ j => simp [bcell] at hu
    | zero =>
      simp only [bcell, List.getElem?_cons_zero, Option.some.injEq] at hu
      subst hu
      have hc := hcell i (by simpa using hib)
      have hzi : (bs.map fun b : UInt8 => (b.toNat : Int)).getD i 0 = (x.toNat : Int) := by
        simp [List.getD, List.getElem?_map, hx]
      rw [hzi, addr_add] at hc
      unfold World.cell? at hc
      unfold Snap.cell cellOf snapOf
      simp only [Nat.mul_one, Nat.add_zero]
      cases hb : W.heap[b]? with
      | none => rw [hb] at hc; cases hc
      | some o =>
        rw [hb] at hc
        cases o <;> simp_all

theorem Grown.below {w w' : World} (h : Grown w w') : Below w.heap.size w w' := ⟨h.os, h.tape, h.output, h.size, h.same⟩

set_option maxRecDepth 100000 in
theorem lifted (os : Os) (started : os.Started) (H : Type) (enc : TypeId × Value → H) :
    ReturnsInHanded {} Tryz.checked os 3 .any (fun w args => (YtglbbdailankpaaGreatDoor.Rows.reachFollowsMovesSpec.pre enc Tryz.prog Tryz.f3 [] false w args ∧ laidMetH Tryz.prog laidL w) ∧ sizedMet enc Tryz.prog Tryz.f3 (OpenSpec.ofChange YtglbbdailankpaaGreatDoor.Rows.reachFollowsMovesSpec) false w args)
      (YtglbbdailankpaaGreatDoor.Rows.reachFollowsMovesSpec.post enc Tryz.prog Tryz.f3 false true false false) := by
  refine returnsInHanded_of_change_and (C := Tryz.checked) (X := fun w _ => laidMetH Tryz.prog laidL w) (fun _ _ _ hh h => h.of_heap hh) own started (by kernel_rfl) Tryz.func3
    (ChangeSpec.witness_shaped (enc := enc) (C := Tryz.checked) (os := os) (X := fun w _ => laidMetH Tryz.prog laidL w) false (start0 os) #[.int .i64 0, .slice none 0 0, .int .u8 0] 8 (start0_os os) (World.shaped_of_ZipB (by kernel_rfl) (by kernel_rfl)) (by kernel_rfl) (by kernel_rfl) (by kernel_rfl) (start0_met os _)) ?_
  intro W base args ds gs before hval0 hW _ _ hL _
  have hval : ∀ (j : Nat) t v, Tryz.f3.params[j]? = some t → args[j]? = some v → Value.okWide Tryz.prog W .any base t v := hval0
  have hW' := hW
  obtain ⟨p, q, hA0, hV, rfl, hfz, hnd⟩ := hW
  have hA : DataW.TrodAll enc Tryz.prog W 0 (fun _ => true) true Tryz.f3.params.toList args.toList ds p := hA0
  rw [Tryz.params3] at hA hval
  obtain ⟨v0, v1, v2, d0, d1, d2, p0, p1, p2, rfl, rfl, rfl, h0, h1, h2⟩ := trodAll_three hA
  obtain ⟨rfl, rfl⟩ := trodVars_none hV
  obtain ⟨s, rfl, rfl, rfl, ws⟩ := open_int Tryz.underlying3 (hval 0 3 v0 rfl rfl) h0
  obtain ⟨e, rfl, rfl, rfl, we⟩ := open_int Tryz.underlying5 (hval 2 5 v2 rfl rfl) h2
  obtain ⟨a0, len, cap, rfl⟩ := okWide_slice Tryz.underlying22 (hval 1 22 v1 rfl rfl)
  obtain ⟨route, hRd⟩ := route_of h1
  obtain ⟨ek, rfl⟩ := wf_u8 we
  clear hA0 hval0
  simp only [List.append_nil] at hW'
  have hlt : ∀ x ∈ p1, x.block < W.heap.size := fun x hx => by simpa using hW'.lt x (by simpa using hx)
  refine (law_any W (san_of_laid hL) s _ route ek hRd).mono fun ed W' ⟨he, hS⟩ => ?_
  subst he
  have bel := hS.to_grown.below
  refine ⟨_, rfl, _, _, _, [], [] ++ (p1 ++ []), [], hW', ?_, ?_, ?_, bel.frame _, fun h => by cases h⟩
  · exact trodAll_mk1 (shut_bool Tryz.underlying4 _)
  · exact trodAll_mk3 (shut_int Tryz.underlying3 ws) (Below.trod laidOut (by kernel_rfl) (of_decide_eq_true (by kernel_rfl)) h1 bel hlt) (shut_int Tryz.underlying5 we)
  · rfl

theorem row_holds : YtglbbdailankpaaGreatDoor.Rows.ReachFollowsMovesSaid :=
  OpenClaim.holds_of_wide 3 Tryz.f3 rfl rfl rfl rfl rfl rfl rfl ⟨rfl, rfl, rfl, rfl, rfl⟩ rfl rfl rfl rfl rfl (by kernel_rfl) Tryz.func3 (by kernel_rfl)
    (of_decide_eq_true (by kernel_rfl)) (by unfold Func.isWrapper; first | (rw [if_pos (by decide +kernel)]; kernel_rfl) | (rw [if_neg (by decide +kernel)]; exact ⟨rfl, rfl⟩))
    (fun os started H enc _ => lifted os started H enc)
#print axioms row_holds
end Go.Proofs.Bc

namespace Go.Proofs.YtglbbdailankpaaGreatDoor
open Go Go.Proofs.Bc

theorem reachFollowsMoves_holds : Rows.ReachFollowsMovesCardSaid :=
  Claim7.holds_tied_plain_at .later [] [.data, .data, .data, .data, .data, .funcs, .sentinel, .sentinel, .data, .data, .widerDeep, .funcs, .pinned] true (true, "676bc7490bf6859167794139a06f921fa218c8d11385782b33a299fda90fa665") true
    row_holds (fun _ h => by cases h) (by kernel_rfl) (fun _ h => by cases h) reachFollowsMoves_row_tie rfl ⟨rfl, rfl⟩ (by kernel_rfl) rfl
    (fun f fn hf hfn => by
      obtain rfl : f = 3 := Option.some.inj ((show Tryz.prog.funcNamed "bootchain/bootchainlaw38.ReachFollowsMoves" = some 3 by kernel_rfl).symm.trans hf) |>.symm
      obtain rfl : fn = Tryz.f3 := (Option.some.inj (Tryz.func3.symm.trans hfn)).symm
      exact ⟨by kernel_rfl, fun j t ht => by
        rw [Tryz.params3] at ht
        have hm : t ∈ [3, 22, 5] := by simpa using Array.mem_of_getElem? ht
        have hall : ([3, 22, 5].all fun u => !Tryz.prog.wantsStandIn u) = true := by kernel_rfl
        exact (show Tryz.prog.wantsStandIn t = false by simpa using List.all_eq_true.1 hall t hm)⟩)
    (by kernel_rfl)
#print axioms reachFollowsMoves_holds
end Go.Proofs.YtglbbdailankpaaGreatDoor
