/- For every input that reads as data the call of law 38 ReachFollowsMoves returns true and its arguments read as they did: from the walk to the form of the row. -/
import Derived.Test.YtglbbdailankpaaGreatDoorE3
import Derived.Test.YtglbbdailankpaaGreatDoorE5
namespace Go.Proofs.Bc
open Go Go.ChangeShapes Go.WideShapes Go.ChangeAt Go.RowKit

theorem own : ownKnob Tryz.prog.godebug = none := by kernel_rfl
theorem laidOut : laidOutB Tryz.prog = true := by kernel_rfl
theorem cells_u8 : Tryz.prog.cellsOf 5 = 1 := by kernel_rfl

theorem wf_u8 {n : Int} (h : (Lit.int .u8 n).wf = true) : ∃ b : UInt8, n = (b.toNat : Int) := by
  have hh : IntKind.u8.min ≤ n ∧ n ≤ IntKind.u8.max := by simpa [Lit.wf] using h
  have h1 : (0 : Int) ≤ n := hh.1
  have h2 : n ≤ (255 : Int) := hh.2
  exact ⟨UInt8.ofNat n.toNat, by rw [UInt8.toNat_ofNat']; omega⟩

/-- Numbers of one byte, as bytes. -/
theorem bytes_of : ∀ (zs : List Int), (∀ n ∈ zs, (Lit.int .u8 n).wf = true) → ∃ bs : List UInt8, zs = bs.map fun b => (b.toNat : Int)
  | [], _ => ⟨[], rfl⟩
  | z :: zs, h => by
    obtain ⟨b, hb⟩ := wf_u8 (h z (by simp))
    obtain ⟨bs, hbs⟩ := bytes_of zs (fun n hn => h n (by simp [hn]))
    exact ⟨b :: bs, by rw [hb, hbs]; rfl⟩

/-- The route that came in reads as bytes. -/
theorem route_of {H : Type} {enc : TypeId × Value → H} {W : World} {a0 : Option Addr} {len cap : Nat} {d : DataW H} {p : List MemPlace} (h : DataW.Trod enc Tryz.prog W 0 (fun _ => true) true 22 (.slice a0 len cap) d p) :
    ∃ bs : List UInt8, Rd (snapOf W) 1 bcell (.slice a0 len cap) bs := by
  obtain ⟨fuel, hf⟩ := h
  rcases open_ints Tryz.underlying22 Tryz.underlying5 cells_u8 hf with ⟨hcs, _⟩ | ⟨a, len', cap', zs, hcs, _, hl, hm, hz, _, hcell, hwz⟩
  · simp [Value.cells] at hcs
    obtain ⟨rfl, rfl, rfl⟩ := hcs
    exact ⟨[], Rd.nil _ _ _⟩
  · simp [Value.cells] at hcs
    obtain ⟨rfl, rfl, rfl⟩ := hcs
    simp only [if_true] at hz
    obtain ⟨bs, rfl⟩ := bytes_of zs hwz
    simp only [List.length_map] at hz
    have hlen : (bs.take len).length = len := by rw [List.length_take]; omega
    refine ⟨bs.take len, some a, cap, by rw [hlen], by omega, hm, fun hp => ?_⟩
    rw [hlen] at hp
    have h0 := hcell 0 (by simp only [List.length_map]; omega)
    obtain ⟨b, off, spot⟩ := a
    have hspot : spot = none := by simpa [Addr.add] using World.cell?_spot h0
    subst hspot
    refine ⟨b, off, rfl, fun i x hx j u hu => ?_⟩
    have hil : i < len := by
      have := (List.getElem?_eq_some_iff.1 hx).1
      omega
    rw [List.getElem?_take_of_lt hil] at hx
    have hib : i < bs.length := (List.getElem?_eq_some_iff.1 hx).1
    cases j with
    | succ j => simp [bcell] at hu
    | zero =>
      simp only [bcell, List.getElem?_cons_zero, Option.some.injEq] at hu
      subst hu
      have hc := hcell i (by simpa using hib)
      have hzi : (bs.map fun b : UInt8 => (b.toNat : Int)).getD i 0 = (x.toNat : Int) := by
        simp [List.getD, List.getElem?_map, hx]
      rw [hzi, addr_add] at hc
      unfold World.cell? at hc
      unfold Snap.cell cellOf snapOf
      simp only [Nat.mul_one, Nat.add_zero]
      cases hb : W.heap[b]? with
      | none => rw [hb] at hc; cases hc
      | some o =>
        rw [hb] at hc
        cases o <;> simp_all

theorem Grown.below {w w' : World} (h : Grown w w') : Below w.heap.size w w' := ⟨h.os, h.tape, h.output, h.size, h.same⟩

set_option maxRecDepth 100000 in
theorem lifted (os : Os) (started : os.Started) (H : Type) (enc : TypeId × Value → H) :
    ReturnsInHanded {} Tryz.checked os 3 .any (fun w args => (YtglbbdailankpaaGreatDoor.Rows.reachFollowsMovesSpec.pre enc Tryz.prog Tryz.f3 [] false w args ∧ laidMetH Tryz.prog laidL w) ∧ sizedMet enc Tryz.prog Tryz.f3 (OpenSpec.ofChange YtglbbdailankpaaGreatDoor.Rows.reachFollowsMovesSpec) false w args)
      (YtglbbdailankpaaGreatDoor.Rows.reachFollowsMovesSpec.post enc Tryz.prog Tryz.f3 false true false false) := by
  refine returnsInHanded_of_change_and (C := Tryz.checked) (X := fun w _ => laidMetH Tryz.prog laidL w) (fun _ _ _ hh h => h.of_heap hh) own started (by kernel_rfl) Tryz.func3
    (ChangeSpec.witness_shaped (enc := enc) (C := Tryz.checked) (os := os) (X := fun w _ => laidMetH Tryz.prog laidL w) false (start0 os) #[.int .i64 0, .slice none 0 0, .int .u8 0] 8 (start0_os os) (start0_shaped os) (by kernel_rfl) (by kernel_rfl) (by kernel_rfl) (start0_met os _)) ?_
  intro W base args ds gs before hval0 hW _ _ hL _
  have hval : ∀ (j : Nat) t v, Tryz.f3.params[j]? = some t → args[j]? = some v → Value.okWide Tryz.prog W .any base t v := hval0
  have hW' := hW
  obtain ⟨p, q, hA0, hV, rfl, hfz, hnd⟩ := hW
  have hA : DataW.TrodAll enc Tryz.prog W 0 (fun _ => true) true Tryz.f3.params.toList args.toList ds p := hA0
  rw [Tryz.params3] at hA hval
  obtain ⟨v0, v1, v2, d0, d1, d2, p0, p1, p2, rfl, rfl, rfl, h0, h1, h2⟩ := trodAll_three hA
  obtain ⟨rfl, rfl⟩ := trodVars_none hV
  obtain ⟨s, rfl, rfl, rfl, ws⟩ := open_int Tryz.underlying3 (hval 0 3 v0 rfl rfl) h0
  obtain ⟨e, rfl, rfl, rfl, we⟩ := open_int Tryz.underlying5 (hval 2 5 v2 rfl rfl) h2
  obtain ⟨a0, len, cap, rfl⟩ := okWide_slice Tryz.underlying22 (hval 1 22 v1 rfl rfl)
  obtain ⟨route, hRd⟩ := route_of h1
  obtain ⟨ek, rfl⟩ := wf_u8 we
  clear hA0 hval0
  simp only [List.append_nil] at hW'
  have hlt : ∀ x ∈ p1, x.block < W.heap.size := fun x hx => by simpa using hW'.lt x (by simpa using hx)
  refine (law_any W (san_of_laid hL) s _ route ek hRd).mono fun ed W' ⟨he, hS⟩ => ?_
  subst he
  have bel := hS.to_grown.below
  refine ⟨_, rfl, _, _, _, [], [] ++ (p1 ++ []), [], hW', ?_, ?_, ?_, bel.frame _, fun h => by cases h⟩
  · exact trodAll_mk1 (shut_bool Tryz.underlying4 _)
  · exact trodAll_mk3 (shut_int Tryz.underlying3 ws) (Below.trod laidOut (by kernel_rfl) (of_decide_eq_true (by kernel_rfl)) h1 bel hlt) (shut_int Tryz.underlying5 we)
  · rfl
end Go.Proofs.Bc
