/- The digests' small functions: equal lists, membership, a device's name. -/
import Derived.Test.YtglbbdailankpaaGreatDoorB1
import Derived.Test.YtglbbdailankpaaGreatDoorB3
import Derived.WalkLawsBesides
import Derived.WalkSpells
import Derived.Handy
namespace Go.Proofs.Bc
open Go Go.RowKit
theorem ret_bool {a b : Bool} (h : a = b) : Ending.returned (.bool a) = .returned (.bool b) := by rw [h]
theorem ret_int {k : IntKind} {a b : Int} (h : a = b) : Ending.returned (.int k a) = .returned (.int k b) := by rw [h]
/-- The cells of the i-th element, in whatever world keeps the snapshot. -/
theorem S.elem {α : Type} {w0 w : World} {H : Snap} {L : List Chunk} (hS : S w0 H w L) {k : Nat} {enc : α → List Value} {xs : List α} {b off i : Nat} {x : α} (hx : xs[i]? = some x)
    (h : ∀ i x, xs[i]? = some x → ∀ j u, (enc x)[j]? = some u → H.cell ⟨b, off + i * k + j, none⟩ = some u) : ∀ w', (∃ n, w' = w.drewN n) → ∀ j u, (enc x)[j]? = some u → w'.cell? ⟨b, off + i * k + j, none⟩ = some u := by
  rintro _ ⟨n, rfl⟩ j u hj
  rw [World.cell?_drewN]
  exact hS.cell (h i x hx j u hj)
theorem S.boxed {w0 w : World} {H : Snap} {L : List Chunk} {b : Nat} {cs : List Value} {t : TypeId} (hS : S w0 H w L) (hm : row b cs.toArray t ∈ L) : ∀ w', (∃ n, w' = w.drewN n) → ∀ j u, cs[j]? = some u → w'.cell? ⟨b, 0 + j, none⟩ = some u := by
  rintro _ ⟨n, rfl⟩ j u hj
  rw [World.cell?_drewN, Nat.zero_add]
  exact hS.row_cell hm (by simpa using hj)

set_option maxHeartbeats 1000000 in
theorem In_any {w0 w : World} {H : Snap} {L : List Chunk} (hS : S w0 H w L) (v : Value) (ds : List Dig) (d : Dig) (hv : Rd H 16 Dig.cells v ds) (_hn : ds.length ≤ 1000000) :
    Calls Tryz.prog 7 #[v, d.val] w fun e w' => e = .returned (.bool (decide (d ∈ ds))) ∧ S w0 H w' L := by
  obtain ⟨a, c, rfl, _hc1, _hc2, hr⟩ := hv
  have heq := run_eql_dig
  unfold Dig.val at *
  have hS1 := hS.alloc (.cells d.cells.toArray 25)
  go_enter Tryz.func7, Tryz.ntmps7
  go_wp2
  go_loopg [5] ds.length (fun g s5 wr => ∃ kk : Nat, kk ≤ ds.length ∧ ds.length - kk ≤ g ∧ s5 = .int .i64 kk ∧ S w0 H wr (row w.heap.size d.cells.toArray 25 :: L) ∧ Aside (d ∉ ds.take kk))
  case atStart => exact ⟨0, Nat.zero_le _, by omega, rfl, hS1, by simp [Aside]⟩
  case round =>
    obtain ⟨kk, hkk, hg, rfl, hSr, A⟩ := hrel
    by_cases hlt : kk < ds.length
    · obtain ⟨b, off, rfl, hcell⟩ := hr (by omega)
      have Hrw : Aside _ := hSr.elem (List.getElem?_eq_getElem hlt) hcell
      have Hbx : Aside _ := hSr.boxed (cs := d.cells) List.mem_cons_self
      clear hr hcell
      have hltz : (kk : Int) < (ds.length : Int) := by omega
      have h01 : 0 ≤ (kk : Int) := by omega
      have B : Aside (ds.take (kk + 1) = ds.take kk ++ [ds[kk]]) := List.take_succ_eq_append_getElem hlt
      have B2 : Aside (ds[kk] ∈ ds) := List.getElem_mem hlt
      generalize ds[kk] = y at Hrw B B2
      go_wp2_with fail
      refine wp_region_quiet_lit (by kernel_rfl) (by kernel_rfl) ?_
      repeat (first | go_big_quiet_skip | (go_big_quiet_want; refine quiet_load_cells 25 _ rfl rfl _ Tryz.isAgg25 Tryz.sizeOf25 (Dig.cells_length _) (by first | exact Hrw | exact Hbx) ?_; simp only [Act.put, List.setIfInBounds_toArray, List.set_cons_succ, List.set_cons_zero]; go_big_quiet_on) | (go_big_quiet_want; go_big_quiet_op; go_big_quiet_on))
      refine wpQuiet_nil ?_
      rintro _ ⟨nq, rfl⟩
      by_cases hq : y = d
      · go_wp2
        go_ret
        exact ⟨ret_bool (decide_eq_true (hq ▸ B2.out)).symm, (hSr.drewN nq).drop⟩
      · go_wp2
        go_roundg (ds.length - (kk + 1))
        case measure => omega
        case rel =>
          refine ⟨kk + 1, by omega, by omega, by go_num, hSr.drewN nq, ?_⟩
          show d ∉ ds.take (kk + 1)
          rw [B.out]
          have := A.out
          simp only [List.mem_append, List.mem_singleton, not_or]
          exact ⟨this, fun e => hq e.symm⟩
    · have hltz : ¬ (kk : Int) < (ds.length : Int) := by omega
      have : kk = ds.length := by omega
      subst this
      go_wp2
      go_ret
      have hA : d ∉ ds := by have := A.out; rwa [List.take_length] at this
      exact ⟨ret_bool (decide_eq_false hA).symm, hSr.drop⟩

set_option maxHeartbeats 1000000 in
theorem Digests_any {w0 w : World} {H : Snap} {L : List Chunk} (hS : S w0 H w L) (v1 v2 : Value) (xs ys : List Dig) (h1 : Rd H 16 Dig.cells v1 xs) (h2 : Rd H 16 Dig.cells v2 ys) (_hn : xs.length ≤ 1000000) (_hn2 : ys.length ≤ 1000000) :
    Calls Tryz.prog 8 #[v1, v2] w fun e w' => e = .returned (.bool (decide (xs = ys))) ∧ S w0 H w' L := by
  obtain ⟨a, c, rfl, _hc1, _hc2, hr1⟩ := h1
  obtain ⟨a2, c2, rfl, _hc3, _hc4, hr2⟩ := h2
  have hneq := run_neq_dig
  unfold Dig.val at *
  by_cases hlen : xs.length = ys.length
  · have hle : ((xs.length : Int) != (ys.length : Int)) = false := by simp [hlen]
    have E : Aside (xs.length = ys.length) := hlen
    clear hlen
    go_enter Tryz.func8, Tryz.ntmps8
    go_wp2
    go_loopg [5] xs.length (fun g s5 wr => ∃ kk : Nat, kk ≤ xs.length ∧ xs.length - kk ≤ g ∧ s5 = .int .i64 kk ∧ S w0 H wr L ∧ Aside (xs.take kk = ys.take kk))
    case atStart => exact ⟨0, Nat.zero_le _, by omega, rfl, hS, by simp [Aside]⟩
    case round =>
      obtain ⟨kk, hkk, hg, rfl, hSr, A⟩ := hrel
      by_cases hlt : kk < xs.length
      · have hlt2 : kk < ys.length := by have := E.out; omega
        obtain ⟨b, off, rfl, hcell⟩ := hr1 (by omega)
        obtain ⟨b2, off2, rfl, hcell2⟩ := hr2 (by omega)
        have Hx : Aside _ := hSr.elem (List.getElem?_eq_getElem hlt) hcell
        have Hy : Aside _ := hSr.elem (List.getElem?_eq_getElem hlt2) hcell2
        clear hr1 hr2 hcell hcell2
        have hltz : (kk : Int) < (xs.length : Int) := by omega
        have hltz2 : (kk : Int) < (ys.length : Int) := by omega
        have h01 : 0 ≤ (kk : Int) := by omega
        have B : Aside (xs.take (kk + 1) = xs.take kk ++ [xs[kk]]) := List.take_succ_eq_append_getElem hlt
        have B2 : Aside (ys.take (kk + 1) = ys.take kk ++ [ys[kk]]) := List.take_succ_eq_append_getElem hlt2
        have D : Aside (xs[kk] ≠ ys[kk] → xs ≠ ys) := fun h e => h (by subst e; rfl)
        generalize xs[kk] = x at Hx B D
        generalize ys[kk] = y at Hy B2 D
        go_wp2_with fail
        refine wp_region_quiet_lit (by kernel_rfl) (by kernel_rfl) ?_
        repeat (first | go_big_quiet_skip | (go_big_quiet_want; refine quiet_load_cells 25 _ rfl rfl _ Tryz.isAgg25 Tryz.sizeOf25 (Dig.cells_length _) (by first | exact Hx | exact Hy) ?_; simp only [Act.put, List.setIfInBounds_toArray, List.set_cons_succ, List.set_cons_zero]; go_big_quiet_on) | (go_big_quiet_want; go_big_quiet_op; go_big_quiet_on))
        refine wpQuiet_nil ?_
        rintro _ ⟨nq, rfl⟩
        by_cases hq : x = y
        · have hqb : (!decide (x = y)) = false := by simp [hq]
          rw [hqb]
          clear hqb
          have hq' : Aside (x = y) := hq
          clear hq
          go_wp2
          go_roundg (xs.length - (kk + 1))
          case measure => omega
          case rel =>
            refine ⟨kk + 1, by omega, by omega, by go_num, hSr.drewN nq, ?_⟩
            show xs.take (kk + 1) = ys.take (kk + 1)
            rw [B.out, B2.out, A.out, hq'.out]
        · have hqb : (!decide (x = y)) = true := by simp [hq]
          rw [hqb]
          clear hqb
          have hne := D.out hq
          clear hq
          go_wp2
          go_ret
          exact ⟨ret_bool (decide_eq_false hne).symm, hSr.drewN nq⟩
      · have hltz : ¬ (kk : Int) < (xs.length : Int) := by omega
        have : kk = xs.length := by omega
        subst this
        go_wp2
        go_ret
        have hA : xs = ys := by
          have := A.out
          rwa [List.take_length, E.out, List.take_length] at this
        exact ⟨ret_bool (decide_eq_true hA).symm, hSr⟩
  · have hle : ((xs.length : Int) != (ys.length : Int)) = true := by simp; omega
    have hne : xs ≠ ys := fun e => hlen (by rw [e])
    clear hlen
    go_enter Tryz.func8, Tryz.ntmps8
    go_wp2
    go_ret
    exact ⟨ret_bool (decide_eq_false hne).symm, hS⟩
#print axioms Digests_any
end Go.Proofs.Bc
