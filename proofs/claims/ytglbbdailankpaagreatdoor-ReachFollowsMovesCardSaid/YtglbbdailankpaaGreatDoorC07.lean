/- reach.Holders. -/
import Derived.Test.YtglbbdailankpaaGreatDoorB8
import Derived.Test.YtglbbdailankpaaGreatDoorC03
import Derived.Test.YtglbbdailankpaaGreatDoorC04
import Derived.Test.YtglbbdailankpaaGreatDoorC06
namespace Go.Proofs.Bc
open Go Go.RowKit

/-- A grant: 20 cells; a move: 33 cells. -/
structure Gr where
  secret : Int
  dev : Dig
  policy : ByteArray
  bundles : Option Addr × Nat × Nat
  epochs : Option Addr × Nat × Nat
def Gr.cells (g : Gr) : List Value := .int .i64 g.secret :: (g.dev.cells ++ [.string g.policy, .slice g.bundles.1 g.bundles.2.1 g.bundles.2.2, .slice g.epochs.1 g.epochs.2.1 g.epochs.2.2])
theorem Gr.cells_length (g : Gr) : g.cells.length = 20 := by simp [Gr.cells, Dig.cells_length]
theorem Gr.one (g : Gr) : ∀ v ∈ g.cells, v.oneCell' = true := by
  intro v hv
  simp only [Gr.cells, List.mem_cons, List.mem_append, List.not_mem_nil, or_false] at hv
  rcases hv with rfl | hv | rfl | rfl | rfl
  · rfl
  · exact g.dev.one v hv
  · rfl
  · rfl
  · rfl
structure Mv where
  secret : Int
  src : Dig
  dst : Dig
def Mv.cells (m : Mv) : List Value := .int .i64 m.secret :: (m.src.cells ++ m.dst.cells)
theorem Mv.cells_length (m : Mv) : m.cells.length = 33 := by simp [Mv.cells, Dig.cells_length]
theorem Mv.one (m : Mv) : ∀ v ∈ m.cells, v.oneCell' = true := by
  intro v hv
  simp only [Mv.cells, List.mem_cons, List.mem_append] at hv
  rcases hv with rfl | hv | hv
  · rfl
  · exact m.src.one v hv
  · exact m.dst.one v hv

def starts (gs : List Gr) (s : Int) : List Dig := (gs.filter fun g => g.secret = s).map Gr.dev
def moved (s : Int) (l : List Dig) (m : Mv) : List Dig := if m.secret = s ∧ m.src ∈ l then l ++ [m.dst] else l
def reached (gs : List Gr) (ms : List Mv) (s : Int) : List Dig := ms.foldl (moved s) (starts gs s)
def holders (gs : List Gr) (ms : List Mv) (s : Int) : List Dig := dd (sortDigs (reached gs ms s))
theorem starts_length (gs : List Gr) (s : Int) : (starts gs s).length ≤ gs.length := by simpa [starts] using List.length_filter_le _ gs
theorem moved_length (s : Int) (l : List Dig) (m : Mv) : (moved s l m).length ≤ l.length + 1 := by unfold moved; split <;> simp
theorem foldl_moved_length (s : Int) : ∀ (ms : List Mv) (l : List Dig), (ms.foldl (moved s) l).length ≤ l.length + ms.length
  | [], l => by simp
  | m :: ms, l => by
    have := foldl_moved_length s ms (moved s l m)
    have := moved_length s l m
    simp only [List.foldl_cons, List.length_cons]
    omega

theorem getGr_dev (g : Gr) {j : Nat} {u : Value} (h : g.dev.cells[j]? = some u) : g.cells[1 + j]? = some u := by
  have hj : j < g.dev.cells.length := (List.getElem?_eq_some_iff.1 h).1
  rw [Gr.cells, Nat.add_comm, List.getElem?_cons_succ, List.getElem?_append_left hj]
  exact h
theorem getMv_src (m : Mv) {j : Nat} {u : Value} (h : m.src.cells[j]? = some u) : m.cells[1 + j]? = some u := by
  have hj : j < m.src.cells.length := (List.getElem?_eq_some_iff.1 h).1
  rw [Mv.cells, Nat.add_comm, List.getElem?_cons_succ, List.getElem?_append_left hj]
  exact h
theorem getMv_dst (m : Mv) {j : Nat} {u : Value} (h : m.dst.cells[j]? = some u) : m.cells[17 + j]? = some u := by
  rw [Mv.cells, show 17 + j = (16 + j) + 1 by omega, List.getElem?_cons_succ, List.getElem?_append_right (by rw [Dig.cells_length]; omega), Dig.cells_length]
  simpa using h

theorem SO.newRow {w0 w : World} {H : Snap} {L : List Chunk} {e size : Nat} {v : Value} {xs : List (List Value)} (h : SO w0 H w e size v xs L) (cs : List Value) (t : TypeId) :
    ∀ wn, wn = w.alloc (.cells cs.toArray t) → SO w0 H wn e size v xs L ∧ (∀ j u, cs[j]? = some u → wn.cell? ⟨w.heap.size, j, none⟩ = some u) := by
  rintro _ rfl
  refine ⟨h.garbage _, fun j u hj => ?_⟩
  simp only [World.cell?, World.alloc, Array.getElem?_push, if_true]
  simpa using hj

theorem SO.newRow2 {w0 w : World} {H : Snap} {L : List Chunk} {e size : Nat} {v : Value} {xs : List (List Value)} (h : SO w0 H w e size v xs L) (cs : List Value) (t : TypeId) :
    ∀ wn, wn = w.alloc (.cells cs.toArray t) → SO w0 H wn e size v xs (row w.heap.size cs.toArray t :: L) := by
  rintro _ rfl
  exact h.alloc _
theorem SO.rowCells {w0 w : World} {H : Snap} {L : List Chunk} {e size b : Nat} {v : Value} {xs : List (List Value)} {cs : List Value} {t : TypeId} (h : SO w0 H w e size v xs (row b cs.toArray t :: L)) :
    ∀ j u, cs[j]? = some u → w.cell? ⟨b, j, none⟩ = some u := fun j u hj => h.base.row_cell List.mem_cons_self (by simpa using hj)

set_option maxRecDepth 20000 in
set_option maxHeartbeats 4000000 in
theorem Holders_any {w0 w : World} {H : Snap} {L : List Chunk} (hS : S w0 H w L) (vg vm : Value) (gs : List Gr) (ms : List Mv) (s : Int) (hg : Rd H 20 Gr.cells vg gs) (hm : Rd H 33 Mv.cells vm ms) (_hn : gs.length ≤ 1000) (_hn2 : ms.length ≤ 1000) :
    Calls Tryz.prog 6 #[vg, vm, .int .i64 s] w fun e w' => ∃ v, e = .returned v ∧ SO w0 H w' 25 16 v ((holders gs ms s).map Dig.cells) L := by
  obtain ⟨a, c, rfl, _hc1, _hc2, hr⟩ := hg
  obtain ⟨a2, c2, rfl, _hc3, _hc4, hr2⟩ := hm
  have hu : Tryz.prog.underlying 35 = some (.slice 25) := by kernel_rfl
  have Hinf : Aside ((Tryz.prog.info? 25).map (fun i => (i.zero, i.size, i.bytes)) = some (some (.agg (Array.replicate 16 (.int .u8 0))), 16, 16)) := by show _ = _; kernel_rfl
  go_enter Tryz.func6, Tryz.ntmps6
  go_wp2
  go_loopg [7, 14] gs.length (fun g' s7 s14 wr => ∃ kk : Nat, kk ≤ gs.length ∧ gs.length - kk ≤ g' ∧ s14 = .int .i64 kk ∧ SO w0 H wr 25 16 s7 ((starts (gs.take kk) s).map Dig.cells) L)
  case atStart => exact ⟨0, Nat.zero_le _, by omega, rfl, SO.nil _ _ hS⟩
  case round =>
    obtain ⟨kk, hkk, hgk, rfl, hSO⟩ := hrel
    by_cases hlt : kk < gs.length
    · obtain ⟨b, off, rfl, hcell⟩ := hr (by omega)
      have Hrw : Aside _ := hSO.base.elem (List.getElem?_eq_getElem hlt) hcell _ ⟨0, rfl⟩
      clear hr hcell
      have hltz : (kk : Int) < (gs.length : Int) := by omega
      have h01 : 0 ≤ (kk : Int) := by omega
      have hSO2 := asid hSO
      have B : Aside (starts (gs.take (kk + 1)) s = if gs[kk].secret = s then starts (gs.take kk) s ++ [gs[kk].dev] else starts (gs.take kk) s) := by
        show _ = _
        rw [List.take_succ_eq_append_getElem hlt]
        rw [starts, List.filter_append, List.map_append]
        by_cases h : gs[kk].secret = s <;> simp [starts, h]
      have Blen : Aside ((starts (gs.take kk) s).length ≤ 1000) := Nat.le_trans (starts_length _ _) (by simp; omega)
      generalize gs[kk] = y at Hrw B
      generalize starts (gs.take kk) s = l at hSO hSO2 B Blen
      clear hSO
      have Zg : Aside ((Tryz.prog.info? 30).map (fun i => (i.zero, i.size)) = some (some (.agg (#[.int .i64 0] ++ Array.replicate 16 (.int .u8 0) ++ #[.string ⟨#[]⟩, .slice none 0 0, .slice none 0 0])), 20)) := by show _ = _; kernel_rfl
      have Bl1 : Aside ((l.map Dig.cells).length + 1 ≤ maxLen) := by
        have := Blen.out
        have h2 : (1001 : Nat) ≤ maxLen := by decide
        show _ ≤ _
        rw [List.length_map]; omega
      have Bl2 : Aside (((l.map Dig.cells).length + 1) * 16 ≤ 140737488355328) := by
        have := Blen.out
        show _ ≤ _
        rw [List.length_map]; omega
      by_cases hs : y.secret = s
      · go_wp2_with (first | (refine wpList_load_cells rfl _ _ rfl rfl y.cells (fun _ => by kernel_rfl) (fun _ => by kernel_rfl) y.cells_length Hrw.out ?_) | (refine wpList_new_struct rfl rfl 30 9 rfl rfl _ rfl Zg.out (by rfl) y.cells y.cells_length y.one rfl rfl ?_; intro wn hwn; obtain ⟨hSn, Hn⟩ := hSO2.out.newRow y.cells 30 wn hwn; have HSn := asid hSn; have HN := asid Hn; clear hwn hSn Hn) | (refine wpList_load_one rfl _ _ rfl rfl (.int .i64 y.secret) (fun _ => by kernel_rfl) (HN.out 0 _ rfl) ?_) | (refine wpList_load_cells rfl _ _ rfl rfl y.dev.cells (fun _ => by kernel_rfl) (fun _ => by kernel_rfl) (Dig.cells_length _) (fun j u h => HN.out (1 + j) u (getGr_dev y h)) ?_) | (refine wpList_append1 rfl rfl 35 _ _ _ rfl rfl rfl _ _ hu Hinf.out rfl (by decide) (by decide) HSn.out (digs_len _) _ rfl y.dev.cells rfl (Dig.cells_length _) y.dev.one rfl rfl Bl1.out Bl2.out ?_; intro v' w' hS'; have HS' := asid hS'; clear hS'))
        go_roundg (gs.length - (kk + 1))
        case measure => omega
        case rel =>
          refine ⟨kk + 1, by omega, by omega, by go_num, ?_⟩
          rw [B.out, if_pos hs, List.map_append]
          exact HS'.out
      · go_wp2_with (first | (refine wpList_load_cells rfl _ _ rfl rfl y.cells (fun _ => by kernel_rfl) (fun _ => by kernel_rfl) y.cells_length Hrw.out ?_) | (refine wpList_new_struct rfl rfl 30 9 rfl rfl _ rfl Zg.out (by rfl) y.cells y.cells_length y.one rfl rfl ?_; intro wn hwn; obtain ⟨hSn, Hn⟩ := hSO2.out.newRow y.cells 30 wn hwn; have HSn := asid hSn; have HN := asid Hn; clear hwn hSn Hn) | (refine wpList_load_one rfl _ _ rfl rfl (.int .i64 y.secret) (fun _ => by kernel_rfl) (HN.out 0 _ rfl) ?_))
        go_roundg (gs.length - (kk + 1))
        case measure => omega
        case rel =>
          refine ⟨kk + 1, by omega, by omega, by go_num, ?_⟩
          rw [B.out, if_neg hs]
          exact HSn.out
    · have hltz : ¬ (kk : Int) < (gs.length : Int) := by omega
      have : kk = gs.length := by omega
      subst this
      rw [List.take_length] at hSO
      have HSO := asid hSO
      clear hSO hr
      go_wp2
      have Glen := asid (starts_length gs s)
      have Hst := asid (rfl : (ms.take 0).foldl (moved s) (starts gs s) = starts gs s)
      have Hfin := asid (show holders gs ms s = dd (sortDigs (ms.foldl (moved s) (starts gs s))) from rfl)
      generalize starts gs s = st at HSO Glen Hst Hfin
      go_loopg [7, 30] ms.length (fun g' s7 s30 wr => ∃ kk : Nat, kk ≤ ms.length ∧ ms.length - kk ≤ g' ∧ s30 = .int .i64 kk ∧ SO w0 H wr 25 16 s7 (((ms.take kk).foldl (moved s) st).map Dig.cells) L)
      case atStart => exact ⟨0, Nat.zero_le _, by omega, rfl, HSO.out⟩
      case round =>
        obtain ⟨kk, hkk, hgk, rfl, hSO⟩ := hrel
        by_cases hlt : kk < ms.length
        · obtain ⟨b, off, rfl, hcell⟩ := hr2 (by omega)
          have Hrw := asid (hSO.base.elem (List.getElem?_eq_getElem hlt) hcell _ ⟨0, rfl⟩)
          clear hr2 hcell
          have hltz : (kk : Int) < (ms.length : Int) := by omega
          have h01 : 0 ≤ (kk : Int) := by omega
          have hSO2 := asid hSO
          have B : Aside ((ms.take (kk + 1)).foldl (moved s) st = moved s ((ms.take kk).foldl (moved s) st) ms[kk]) := by
            show _ = _
            rw [List.take_succ_eq_append_getElem hlt, List.foldl_append]; rfl
          have Blen : Aside (((ms.take kk).foldl (moved s) st).length ≤ 1000000) := by
            have h1 := foldl_moved_length s (ms.take kk) st
            have h2 := Glen.out
            have h3 : (ms.take kk).length ≤ ms.length := by rw [List.length_take]; omega
            show _ ≤ _
            omega
          generalize ms[kk] = y at Hrw B
          generalize (ms.take kk).foldl (moved s) st = l at hSO hSO2 B Blen
          clear hSO
          have Zm : Aside ((Tryz.prog.info? 34).map (fun i => (i.zero, i.size)) = some (some (.agg (#[.int .i64 0] ++ Array.replicate 32 (.int .u8 0))), 33)) := by show _ = _; kernel_rfl
          have Bl1 : Aside ((l.map Dig.cells).length + 1 ≤ maxLen) := by
            have := Blen.out
            have h2 : (1000001 : Nat) ≤ maxLen := by decide
            show _ ≤ _
            rw [List.length_map]; omega
          have Bl2 : Aside (((l.map Dig.cells).length + 1) * 16 ≤ 140737488355328) := by
            have := Blen.out
            show _ ≤ _
            rw [List.length_map]; omega
          by_cases hs : y.secret = s
          · by_cases hin : y.src ∈ l
            · go_wp2_with (first | (refine wpList_load_cells rfl _ _ rfl rfl y.cells (fun _ => by kernel_rfl) (fun _ => by kernel_rfl) y.cells_length Hrw.out ?_) | (refine wpList_new_struct rfl rfl 34 11 rfl rfl _ rfl Zm.out (by rfl) y.cells y.cells_length y.one rfl rfl ?_; intro wn hwn; have HSn := asid (hSO2.out.newRow2 y.cells 34 wn hwn); clear hwn) | (refine wpList_load_one rfl _ _ rfl rfl (.int .i64 y.secret) (fun _ => by kernel_rfl) (HSn.out.rowCells 0 _ rfl) ?_) | (refine wpList_unguard (by rfl) ?_) | (refine wpList_load_cells rfl _ _ rfl rfl y.src.cells (fun _ => by kernel_rfl) (fun _ => by kernel_rfl) (Dig.cells_length _) (fun j u h => HSn.out.rowCells (1 + j) u (getMv_src y h)) ?_) | (go_at_call 13; obtain ⟨HL, _, hSl, hRd, hback⟩ := HSn.out.lend Dig.cells_length; refine (Contains_any hSl _ l y.src hRd Blen.out).mono ?_; rintro e wc ⟨rfl, hSw⟩; have HSc := asid (hback _ hSw); clear hback hSw hRd hSl) | (refine wpList_load_cells rfl _ _ rfl rfl y.dst.cells (fun _ => by kernel_rfl) (fun _ => by kernel_rfl) (Dig.cells_length _) (fun j u h => HSc.out.rowCells (17 + j) u (getMv_dst y h)) ?_) | (refine wpList_append1 rfl rfl 35 _ _ _ rfl rfl rfl _ _ hu Hinf.out rfl (by decide) (by decide) HSc.out.drop (digs_len _) _ rfl y.dst.cells rfl (Dig.cells_length _) y.dst.one rfl rfl Bl1.out Bl2.out ?_; intro v' w' hS'; have HS' := asid hS'; clear hS'))
              go_roundg (ms.length - (kk + 1))
              case measure => omega
              case rel =>
                refine ⟨kk + 1, by omega, by omega, by go_num, ?_⟩
                rw [B.out, moved, if_pos ⟨hs, hin⟩, List.map_append]
                exact HS'.out
            · go_wp2_with (first | (refine wpList_load_cells rfl _ _ rfl rfl y.cells (fun _ => by kernel_rfl) (fun _ => by kernel_rfl) y.cells_length Hrw.out ?_) | (refine wpList_new_struct rfl rfl 34 11 rfl rfl _ rfl Zm.out (by rfl) y.cells y.cells_length y.one rfl rfl ?_; intro wn hwn; have HSn := asid (hSO2.out.newRow2 y.cells 34 wn hwn); clear hwn) | (refine wpList_load_one rfl _ _ rfl rfl (.int .i64 y.secret) (fun _ => by kernel_rfl) (HSn.out.rowCells 0 _ rfl) ?_) | (refine wpList_unguard (by rfl) ?_) | (refine wpList_load_cells rfl _ _ rfl rfl y.src.cells (fun _ => by kernel_rfl) (fun _ => by kernel_rfl) (Dig.cells_length _) (fun j u h => HSn.out.rowCells (1 + j) u (getMv_src y h)) ?_) | (go_at_call 13; obtain ⟨HL, _, hSl, hRd, hback⟩ := HSn.out.lend Dig.cells_length; refine (Contains_any hSl _ l y.src hRd Blen.out).mono ?_; rintro e wc ⟨rfl, hSw⟩; have HSc := asid (hback _ hSw); clear hback hSw hRd hSl))
              go_roundg (ms.length - (kk + 1))
              case measure => omega
              case rel =>
                refine ⟨kk + 1, by omega, by omega, by go_num, ?_⟩
                rw [B.out, moved, if_neg (fun h => hin h.2)]
                exact HSc.out.drop
          · go_wp2_with (first | (refine wpList_load_cells rfl _ _ rfl rfl y.cells (fun _ => by kernel_rfl) (fun _ => by kernel_rfl) y.cells_length Hrw.out ?_) | (refine wpList_new_struct rfl rfl 34 11 rfl rfl _ rfl Zm.out (by rfl) y.cells y.cells_length y.one rfl rfl ?_; intro wn hwn; have HSn := asid (hSO2.out.newRow2 y.cells 34 wn hwn); clear hwn) | (refine wpList_load_one rfl _ _ rfl rfl (.int .i64 y.secret) (fun _ => by kernel_rfl) (HSn.out.rowCells 0 _ rfl) ?_))
            go_roundg (ms.length - (kk + 1))
            case measure => omega
            case rel =>
              refine ⟨kk + 1, by omega, by omega, by go_num, ?_⟩
              rw [B.out, moved, if_neg (fun h => hs h.1)]
              exact HSn.out.drop
        · have hltz : ¬ (kk : Int) < (ms.length : Int) := by omega
          have : kk = ms.length := by omega
          subst this
          rw [List.take_length] at hSO
          have Hlen : Aside ((ms.foldl (moved s) st).length ≤ 100000) := by
            have h1 := foldl_moved_length s ms st
            have h2 := Glen.out
            show _ ≤ _
            omega
          generalize ms.foldl (moved s) st = l at hSO Hfin Hlen
          have HSO2 := asid hSO
          clear hSO hr2
          go_wp2_with (first | (go_at_call 14; refine (SortDig_any HSO2.out (by have := Hlen.out; omega)).mono ?_; rintro e ws ⟨rfl, hSs⟩; have HSs := asid hSs; clear hSs) | (go_at_call 16; refine (Compact_any _ _ HSs.out (by rw [length_sortDigs]; have := Hlen.out; omega)).mono ?_; rintro e wc ⟨vc, rfl, hSc⟩; have HSc := asid hSc; clear hSc))
          go_ret
          exact ⟨_, rfl, by rw [Hfin.out]; exact HSc.out⟩
#print axioms Holders_any
end Go.Proofs.Bc
