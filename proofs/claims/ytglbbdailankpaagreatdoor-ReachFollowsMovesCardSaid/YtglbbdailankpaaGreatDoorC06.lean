/- slices.Compact on digests: the walk. -/
import Derived.Test.YtglbbdailankpaaGreatDoorC05
import Derived.Test.YtglbbdailankpaaGreatDoorC01
namespace Go.Proofs.Bc
open Go Go.RowKit
theorem digs_len (ds : List Dig) : ∀ x, x ∈ ds.map Dig.cells → x.length = 16 := fun x hx => by obtain ⟨z, _, rfl⟩ := List.mem_map.1 hx; exact z.cells_length
theorem Dig.one (d : Dig) : ∀ v ∈ d.cells, v.oneCell' = true := fun v hv => by obtain ⟨b, _, rfl⟩ := List.mem_map.1 hv; rfl

set_option maxRecDepth 20000 in
set_option maxHeartbeats 4000000 in
theorem Compact_any {w0 w : World} {H : Snap} {L : List Chunk} (v : Value) (ds : List Dig) (h : SO w0 H w 25 16 v (ds.map Dig.cells) L) (_hn : ds.length ≤ 1000000) :
    Calls Tryz.prog 16 #[v] w fun e w' => ∃ v', e = .returned v' ∧ SO w0 H w' 25 16 v' ((dd ds).map Dig.cells) L := by
  rcases Nat.lt_or_ge ds.length 2 with hlt | hge
  · have hd : dd ds = ds := by
      match ds, hlt with
      | [], _ => rfl
      | [_], _ => rfl
    rw [hd]
    obtain ⟨a, c, e⟩ := h.slice
    rw [List.length_map] at e
    rw [e] at h ⊢
    have hltz : (ds.length : Int) < 2 := by omega
    have A : Aside _ := h
    clear h hd hlt e
    go_enter Tryz.func16, Tryz.ntmps16
    go_wp2
    go_ret
    exact ⟨_, rfl, A.out⟩
  · rcases h with ⟨rfl, h2, h3⟩ | ⟨g, cap, rfl, h⟩
    · have : ds = [] := by simpa using h2
      subst this
      simp at hge
    · rw [List.length_map]
      have hltz : ¬ (ds.length : Int) < 2 := by omega
      have heq := run_eql_dig
      have hneq := run_neq_dig
      unfold Dig.val at *
      have hcap : ds.length ≤ cap := by obtain ⟨o, ho, cur, rfl, h1, h2, h3, h4⟩ := h.own _ List.mem_cons_self; simpa using h1
      go_enter Tryz.func16, Tryz.ntmps16
      go_wp2
      go_loopg [3] ds.length (fun g' s3 wr => ∃ kk : Nat, 0 < kk ∧ kk ≤ ds.length ∧ ds.length - kk ≤ g' ∧ s3 = .int .i64 kk ∧ S w0 H wr (growRow g cap 25 16 (ds.map Dig.cells) :: L) ∧ Aside (dd (ds.take kk) = ds.take kk))
      case atStart =>
        refine ⟨1, by omega, by omega, by omega, rfl, h, ?_⟩
        match ds, hge with
        | a :: b :: l, _ => rfl
      case round =>
        obtain ⟨kk, hpos, hkk, hg, rfl, hSr, A⟩ := hrel
        by_cases hlt : kk < ds.length
        · have hltz2 : (kk : Int) < (ds.length : Int) := by omega
          have h01 : 0 ≤ (kk : Int) := by omega
          have hk1 : kk - 1 < ds.length := by omega
          have B1 : Aside (ds[kk] = ds[kk - 1] → Cmp ds ds (kk + 1) kk) := fun e => Cmp.start hpos hlt A.out e.symm
          have B2 : Aside (¬ ds[kk] = ds[kk - 1] → dd (ds.take (kk + 1)) = ds.take (kk + 1)) := fun e => by
            rw [dd_take ds kk hpos hlt, if_neg (fun h => e h.symm), A.out, List.take_succ_eq_append_getElem hlt]
          have Hrw : Aside _ := hSr.growCell (digs_len ds) (show (ds.map Dig.cells)[kk]? = some ds[kk].cells by simp [hlt])
          have Hrw1 : Aside _ := hSr.growCell (digs_len ds) (show (ds.map Dig.cells)[kk - 1]? = some ds[kk - 1].cells by simp [hk1])
          have hm1 : ((kk : Int) - 1).toNat = kk - 1 := by omega
          have hm2 : 0 ≤ (kk : Int) - 1 := by omega
          have hm3 : (kk : Int) - 1 < ds.length := by omega
          generalize ds[kk] = y at Hrw B1 B2
          generalize ds[kk - 1] = z at Hrw1 B1 B2
          go_wp2_with fail
          refine wp_region_quiet_lit (by kernel_rfl) (by kernel_rfl) ?_
          repeat (first | go_big_quiet_skip | (go_big_quiet_want; refine quiet_load_cells 25 _ rfl rfl _ Tryz.isAgg25 Tryz.sizeOf25 (Dig.cells_length _) (by first | exact Hrw | exact Hrw1) ?_; simp only [Act.put, List.setIfInBounds_toArray, List.set_cons_succ, List.set_cons_zero]; go_big_quiet_on) | (go_big_quiet_want; go_big_quiet_op; go_big_quiet_on))
          refine wpQuiet_nil ?_
          rintro _ ⟨nq, rfl⟩
          by_cases hq : y = z
          · have hC := B1.out hq
            have hSq := hSr.drewN nq
            generalize wr.drewN nq = wq at hSq ⊢
            rw [show decide (y = z) = true from decide_eq_true hq]
            clear Hrw Hrw1 B1 B2 hSr hq
            have hsl1 : (kk : Int) ≤ ds.length := by omega
            have hsl2 : (ds.length : Int) ≤ cap := by omega
            have hsl3 : kk ≤ cap := by omega
            go_wp2
            clear hm1 hm2 hm3 hk1 A
            obtain ⟨n2, hn2⟩ : ∃ n2, n2 = ds.length - kk := ⟨_, rfl⟩
            rw [← hn2]
            have N : Aside (kk + n2 = ds.length) := by show kk + n2 = ds.length; omega
            have hn2p : 1 ≤ n2 := by omega
            clear hn2
            have hu : Tryz.prog.underlying 35 = some (.slice 25) := by kernel_rfl
            go_loopg [3, 5] n2 (fun g' s3 s5 wr => ∃ m k' es, 1 ≤ m ∧ m ≤ n2 ∧ n2 - m ≤ g' ∧ s3 = .int .i64 (k' : Nat) ∧ s5 = .int .i64 (m : Nat) ∧ S w0 H wr (growRow g cap 25 16 (es.map Dig.cells) :: L) ∧ Aside (Cmp ds es (kk + m) k'))
            case atStart => exact ⟨1, kk, ds, by omega, by omega, by omega, rfl, rfl, hSq, hC⟩
            case round =>
              obtain ⟨m, k', es, hm, hmn, hg2, rfl, rfl, hSe, C⟩ := hrel
              by_cases hlt3 : m < n2
              · have hltz3 : (m : Int) < (n2 : Int) := by omega
                have hn2 := N.out
                have hi0 : kk + m < ds.length := by omega
                have hi1 : kk + m - 1 < ds.length := by omega
                have hk' : k' < kk + m := C.out.le
                have hk'2 : k' < ds.length := by omega
                have hk'z : (k' : Int) < ds.length := by omega
                have hm1 : ((m : Int) - 1).toNat = m - 1 := by omega
                have hm2 : 0 ≤ (m : Int) - 1 := by omega
                have hmc : m ≤ 1000000 := by omega
                have hm3 : (m : Int) - 1 < n2 := by omega
                have heq0 : es[kk + m]? = some ds[kk + m] := by rw [C.out.rest _ (by omega), List.getElem?_eq_getElem hi0]
                have heq1 : es[kk + m - 1]? = some ds[kk + m - 1] := by rw [C.out.rest _ (by omega), List.getElem?_eq_getElem hi1]
                have Hrw : Aside (∀ w', (∃ n, w' = wr.drewN n) → ∀ j u, (ds[kk + m]).cells[j]? = some u → w'.cell? ⟨g, kk * 16 + m * 16 + j, none⟩ = some u) := by
                  rw [← Nat.add_mul]
                  exact hSe.growCell (digs_len es) (by rw [List.getElem?_map, heq0]; rfl)
                have Hrw1 : Aside (∀ w', (∃ n, w' = wr.drewN n) → ∀ j u, (ds[kk + m - 1]).cells[j]? = some u → w'.cell? ⟨g, kk * 16 + (m - 1) * 16 + j, none⟩ = some u) := by
                  rw [← Nat.add_mul, show kk + (m - 1) = kk + m - 1 by omega]
                  exact hSe.growCell (digs_len es) (by rw [List.getElem?_map, heq1]; rfl)
                have D1 : Aside (ds[kk + m - 1] = ds[kk + m] → Cmp ds es (kk + m + 1) k') := fun e => C.out.skip hi0 e
                have D2 : Aside (¬ ds[kk + m - 1] = ds[kk + m] → Cmp ds (es.set k' ds[kk + m]) (kk + m + 1) (k' + 1)) := fun e => C.out.step hi0 e
                have Hlen : Aside (es.length = ds.length) := C.out.len
                clear heq0 heq1 hn2 hk'
                generalize ds[kk + m] = y2 at Hrw D1 D2
                generalize ds[kk + m - 1] = z2 at Hrw1 D1 D2
                clear hi0 hi1
                go_wp2_with fail
                refine wp_region_quiet_lit (by kernel_rfl) (by kernel_rfl) ?_
                repeat (first | go_big_quiet_skip | (go_big_quiet_want; refine quiet_load_cells 25 _ rfl rfl _ Tryz.isAgg25 Tryz.sizeOf25 (Dig.cells_length _) (by first | exact Hrw | exact Hrw1) ?_; simp only [Act.put, List.setIfInBounds_toArray, List.set_cons_succ, List.set_cons_zero]; go_big_quiet_on) | (go_big_quiet_want; go_big_quiet_op; go_big_quiet_on))
                refine wpQuiet_nil ?_
                rintro _ ⟨nq, rfl⟩
                by_cases hq2 : y2 = z2
                · rw [show (!decide (y2 = z2)) = false by simp [hq2]]
                  have D3 : Aside _ := D1.out hq2.symm
                  clear hq2
                  go_wp2
                  go_roundg (n2 - (m + 1))
                  case measure => omega
                  case rel => exact ⟨m + 1, k', es, by omega, by omega, by omega, rfl, by go_num, hSe.drewN nq, D3⟩
                · rw [show (!decide (y2 = z2)) = true by simp [hq2]]
                  have D3 : Aside _ := D2.out (fun e => hq2 e.symm)
                  clear hq2
                  have hSq2 := hSe.drewN nq
                  have Hrw2 : Aside (∀ j u, y2.cells[j]? = some u → (wr.drewN nq).cell? ⟨g, kk * 16 + m * 16 + j, none⟩ = some u) := Hrw.out _ ⟨nq, rfl⟩
                  have hth : (wr.drewN nq).there g (k' * 16) y2.cells.toArray.size := by
                    rw [List.size_toArray, Dig.cells_length]
                    exact hSq2.growThere (by omega)
                  have hin : (Tryz.prog.info? 25).map (·.size) = some y2.cells.toArray.size := by
                    rw [List.size_toArray, Dig.cells_length]; kernel_rfl
                  have hS3 : S w0 H ((wr.drewN nq).setCells g (k' * 16) y2.cells) (growRow g cap 25 16 ((es.set k' y2).map Dig.cells) :: L) := by
                    rw [List.map_set]
                    exact hSq2.setElem (digs_len es) (y2.cells_length) (by rw [List.length_map, Hlen.out]; exact hk'2)
                  generalize hwq3 : wr.drewN nq = wq3 at hS3 Hrw2 hth ⊢
                  have Hth : Aside _ := hth
                  have Hin : Aside _ := hin
                  have HS3 : Aside _ := hS3
                  clear hth hin hS3 hSq2 hwq3
                  go_wp2_with (first | (refine wpList_load_cells rfl _ _ rfl rfl y2.cells (fun _ => by kernel_rfl) (fun _ => by kernel_rfl) (Dig.cells_length _) Hrw2.out ?_) | (refine wpList_store_mid rfl _ _ _ rfl _ _ y2.cells.toArray rfl rfl Hth.out Hin.out (all_oneCell_toArray y2.one) ?_))
                  go_roundg (n2 - (m + 1))
                  case measure => omega
                  case rel => exact ⟨m + 1, k' + 1, es.set k' y2, by omega, by omega, by omega, by go_num, by go_num, HS3.out, D3⟩
              · have hltz3 : ¬ (m : Int) < (m : Int) := by omega
                have hmm : m = n2 := by omega
                subst hmm
                have hn2 := N.out
                have C2 : Cmp ds es ds.length k' := by have := C.out; rwa [show kk + m = ds.length by omega] at this
                have hk'2 : k' < ds.length := C2.le
                have hk'c : k' ≤ cap := by omega
                have hk'z : (k' : Int) ≤ ds.length := by omega
                have hdl : (dd ds).length = k' := by
                  have := C2.pre
                  rw [List.take_length] at this
                  rw [← this, List.length_take, C2.len]; omega
                have hzv := (zero_of_info (P := Tryz.prog) (t := 25) (v := .agg (Array.replicate 16 (.int .u8 0))) (n := 16) (by kernel_rfl)).1
                obtain ⟨vs, hcl⟩ := run_clear_agg (P := Tryz.prog) wr 35 25 0 _ (by kernel_rfl) hzv (fun v hv => by simp [Value.cells] at hv; subst hv; rfl) g (k' * 16) (ds.length - k') (cap - k') (by omega) (hSe.growThere (by simp [Value.cells]; omega))
                have hS4 : S w0 H (wr.setCells g (k' * 16) vs) (growRow g cap 25 16 ((dd ds).map Dig.cells) :: L) := by
                  have h1 := hSe.takeRow (digs_len es) k'
                  rw [← List.map_take, C2.pre, List.take_length] at h1
                  exact h1.setSpare vs (by rw [List.length_map, hdl]; exact Nat.le_refl _)
                have HS4 : Aside _ := hS4
                have Hdl : Aside _ := hdl
                clear hS4 hdl hn2 C2 C hSe hzv hSq hC
                go_wp2
                go_ret
                refine ⟨_, rfl, .inr ⟨g, cap, ?_, HS4.out⟩⟩
                rw [List.length_map, Hdl.out]; rfl
          · go_wp2
            go_roundg (ds.length - (kk + 1))
            case measure => omega
            case rel => exact ⟨kk + 1, by omega, by omega, by omega, by go_num, hSr.drewN nq, B2.out hq⟩
        · have hltz2 : ¬ (kk : Int) < (ds.length : Int) := by omega
          have : kk = ds.length := by omega
          subst this
          have hA : dd ds = ds := by have := A.out; rwa [List.take_length] at this
          go_wp2
          go_ret
          refine ⟨_, rfl, .inr ⟨g, cap, ?_, ?_⟩⟩
          · rw [List.length_map]; rfl
          · exact hSr
#print axioms Compact_any
end Go.Proofs.Bc
