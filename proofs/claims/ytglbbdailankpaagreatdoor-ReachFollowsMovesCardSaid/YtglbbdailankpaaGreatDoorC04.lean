/- slices.Index and slices.Contains on digests. -/
import Derived.Test.YtglbbdailankpaaGreatDoorC01
import Derived.Test.YtglbbdailankpaaGreatDoorB5
namespace Go.Proofs.Bc
open Go Go.RowKit
set_option maxHeartbeats 1000000 in
theorem Index_any {w0 w : World} {H : Snap} {L : List Chunk} (hS : S w0 H w L) (v : Value) (ds : List Dig) (d : Dig) (hv : Rd H 16 Dig.cells v ds) (_hn : ds.length ≤ 1000000) :
    Calls Tryz.prog 27 #[v, d.val] w fun e w' => ∃ r : Int, e = .returned (.int .i64 r) ∧ decide (0 ≤ r) = decide (d ∈ ds) ∧ S w0 H w' L := by
  obtain ⟨a, c, rfl, _hc1, _hc2, hr⟩ := hv
  have heq := run_eql_dig
  unfold Dig.val at *
  have hS1 := hS.alloc (.cells d.cells.toArray 25)
  go_enter Tryz.func27, Tryz.ntmps27
  go_wp2
  go_loopg [5, 8] ds.length (fun g _ s8 wr => ∃ kk : Nat, kk ≤ ds.length ∧ ds.length - kk ≤ g ∧ s8 = .int .i64 kk ∧ S w0 H wr (row w.heap.size d.cells.toArray 25 :: L) ∧ Aside (d ∉ ds.take kk))
  case atStart => exact ⟨0, Nat.zero_le _, by omega, rfl, hS1, by simp [Aside]⟩
  case round =>
    obtain ⟨kk, hkk, hg, rfl, hSr, A⟩ := hrel
    by_cases hlt : kk < ds.length
    · obtain ⟨b, off, rfl, hcell⟩ := hr (by omega)
      have Hrw : Aside _ := hSr.elem (List.getElem?_eq_getElem hlt) hcell
      have Hbx : Aside _ := hSr.boxed (cs := d.cells) List.mem_cons_self
      clear hr hcell
      have hltz : (kk : Int) < (ds.length : Int) := by omega
      have h01 : 0 ≤ (kk : Int) := by omega
      have B : Aside (ds.take (kk + 1) = ds.take kk ++ [ds[kk]]) := List.take_succ_eq_append_getElem hlt
      have B2 : Aside (ds[kk] ∈ ds) := List.getElem_mem hlt
      generalize ds[kk] = y at Hrw B B2
      go_wp2_with fail
      refine wp_region_quiet_lit (by kernel_rfl) (by kernel_rfl) ?_
      repeat (first | go_big_quiet_skip | (go_big_quiet_want; refine quiet_load_cells 25 _ rfl rfl _ Tryz.isAgg25 Tryz.sizeOf25 (Dig.cells_length _) (by first | exact Hrw | exact Hbx) ?_; simp only [Act.put, List.setIfInBounds_toArray, List.set_cons_succ, List.set_cons_zero]; go_big_quiet_on) | (go_big_quiet_want; go_big_quiet_op; go_big_quiet_on))
      refine wpQuiet_nil ?_
      rintro _ ⟨nq, rfl⟩
      by_cases hq : d = y
      · go_wp2
        go_ret
        exact ⟨_, rfl, by rw [decide_eq_true h01, decide_eq_true (hq ▸ B2.out)], (hSr.drewN nq).drop⟩
      · go_wp2
        go_roundg (ds.length - (kk + 1))
        case measure => omega
        case rel =>
          refine ⟨kk + 1, by omega, by omega, by go_num, hSr.drewN nq, ?_⟩
          show d ∉ ds.take (kk + 1)
          rw [B.out]
          have := A.out
          simp only [List.mem_append, List.mem_singleton, not_or]
          exact ⟨this, hq⟩
    · have hltz : ¬ (kk : Int) < (ds.length : Int) := by omega
      have : kk = ds.length := by omega
      subst this
      go_wp2
      go_ret
      have hA : d ∉ ds := by have := A.out; rwa [List.take_length] at this
      exact ⟨_, rfl, iff_of_false (by decide) hA, hSr.drop⟩

set_option maxHeartbeats 1000000 in
theorem Contains_any {w0 w : World} {H : Snap} {L : List Chunk} (hS : S w0 H w L) (v : Value) (ds : List Dig) (d : Dig) (hv : Rd H 16 Dig.cells v ds) (_hn : ds.length ≤ 1000000) :
    Calls Tryz.prog 13 #[v, d.val] w fun e w' => e = .returned (.bool (decide (d ∈ ds))) ∧ S w0 H w' L := by
  have hI := fun w' (h : S w0 H w' L) => Index_any h v ds d hv _hn
  obtain ⟨a, c, rfl, _hc1, _hc2, hr⟩ := hv
  unfold Dig.val at *
  clear hr
  have hS1 := hS.alloc (.cells d.cells.toArray 25)
  have Hbx : Aside _ := hS1.boxed (cs := d.cells) List.mem_cons_self
  go_enter Tryz.func13, Tryz.ntmps13
  go_wp2_with (first | (refine wpList_load_cells rfl _ _ rfl rfl d.cells (fun _ => by kernel_rfl) (fun _ => by kernel_rfl) (Dig.cells_length _) (Hbx _ ⟨0, rfl⟩) ?_) | (go_at_call 27; refine (hI _ hS1.drop).mono ?_; rintro e w' ⟨r, rfl, hd, hS2⟩))
  go_ret
  exact ⟨rfl, hS2⟩
#print axioms Contains_any
end Go.Proofs.Bc
