/- law38.ReachFollowsMoves: the walk. -/
import Derived.Test.YtglbbdailankpaaGreatDoorE0
import Derived.Test.YtglbbdailankpaaGreatDoorE2
import Derived.Test.YtglbbdailankpaaGreatDoorD4
import Derived.Test.YtglbbdailankpaaGreatDoorB9
import Derived.Test.YtglbbdailankpaaGreatDoorB10
namespace Go.Proofs.Bc
open Go Go.RowKit

theorem device_lit {w0 w : World} {H : Snap} {L : List Chunk} (hS : S w0 H w L) (k : UInt8) :
    Calls Tryz.prog 5 #[.int .u8 k.toNat] w fun e w' => e = .returned (.agg #[.int .u8 9, .int .u8 k.toNat, .int .u8 0, .int .u8 0, .int .u8 0, .int .u8 0, .int .u8 0, .int .u8 0, .int .u8 0, .int .u8 0, .int .u8 0, .int .u8 0, .int .u8 0, .int .u8 0, .int .u8 0, .int .u8 0]) ∧ S w0 H w' L :=
  (device_any hS k).mono fun _ _ h => ⟨h.1, h.2⟩

theorem S.less {w0 w : World} {H H' : Snap} {L : List Chunk} (h : S w0 H' w L) (hs : H.Sub H') : S w0 H w L := by
  refine ⟨h.os, h.tape, h.output, fun b o hb => h.snap b o (hs b o hb), h.own, fun c hc => ?_, h.nodup⟩
  cases e : H c.b with
  | none => rfl
  | some o =>
    have := hs _ _ e
    rw [h.free c hc] at this
    cases this
theorem rd_one {α : Type} {H : Snap} {k G : Nat} {enc : α → List Value} {x : α} {cs : Array Value} {t : TypeId} {fr : Nat × Nat} (hG : H G = some (.cells cs t fr)) (he : enc x = cs.toList) : Rd H k enc (.slice (some ⟨G, 0, none⟩) 1 1) [x] := by
  refine ⟨some ⟨G, 0, none⟩, 1, rfl, Nat.le_refl _, by decide, fun _ => ⟨G, 0, rfl, fun i y hy j u hu => ?_⟩⟩
  cases i with
  | succ i => simp at hy
  | zero =>
    simp only [List.getElem?_cons_zero, Option.some.injEq] at hy
    subst hy
    rw [he] at hu
    show cellOf (H G) ⟨G, 0 + 0 * k + j, none⟩ = some u
    rw [hG]
    simpa [cellOf] using hu
theorem phi_value {P : Program} {w0 w w' : World} {L : List Chunk} {H H' : Snap} {Φ : Snap → Value → Prop} {ρ : Operand → Value} {o : Oper} {v : Value} (hr : (execOp ρ o).run P w = .ok (.value v) w') (hs : H.Sub H') (hS : S w0 H' w' L) (hp : Φ H' v) : phiUpon P w0 L H Φ ((execOp ρ o).run P w) := by
  rw [hr]; exact ⟨H', hs, hS, hp⟩
theorem phi_enter {P : Program} {w0 w w' : World} {L : List Chunk} {H : Snap} {Φ : Snap → Value → Prop} {ρ : Operand → Value} {o : Oper} {f : FuncId} {args : Array Value} (hr : (execOp ρ o).run P w = .ok (.enter f args) w')
    (h : Calls P f args w' fun e w'' => ∃ v, e = .returned v ∧ ∃ H', H.Sub H' ∧ S w0 H' w'' L ∧ Φ H' v) : phiUpon P w0 L H Φ ((execOp ρ o).run P w) := by
  rw [hr]; exact h
theorem dep_eval {a : Act} {d : Tmp} {v u : Value} (h : a.tmps[d]? = some v ∧ v = u) : a.eval (.tmp d) = u := (getD_eval h.1).trans h.2

theorem less_cmpB : ∀ (x y : List UInt8), Lib.compareBytes x y < 0 → Op.bytesLess x y = true
  | [], [], h => by simp [Lib.compareBytes] at h
  | [], _ :: _, _ => rfl
  | _ :: _, [], h => by simp [Lib.compareBytes] at h
  | a :: x, b :: y, h => by
    unfold Lib.compareBytes at h
    unfold Op.bytesLess
    by_cases h1 : a < b
    · simp [h1]
    · rw [if_neg h1] at h
      by_cases h2 : b < a
      · rw [if_pos h2] at h; omega
      · rw [if_neg h2] at h
        have hab : a = b := by
          rw [UInt8.lt_iff_toNat_lt] at h1 h2
          exact UInt8.toNat_inj.1 (by omega)
        simp [hab, less_cmpB x y h]
theorem less_cmp {x y : Dig} (h : cmpDig x y < 0) : Op.bytesLess x.1 y.1 = true := less_cmpB _ _ h
/-- string(d[:]). -/
theorem conv_dig {w0 w : World} {H H' : Snap} {L : List Chunk} {b off : Nat} {d : Dig} (hS : S w0 H' w L) (hs : H.Sub H') (h : ∀ (j : Nat) u, d.cells[j]? = some u → H.cell ⟨b, off + j, none⟩ = some u) :
    (convert 22 9 (.slice (some ⟨b, off, none⟩) 16 16)).run Tryz.prog w = .ok (.string ⟨d.1.toArray⟩) w := by
  have := run_convert_bytes_back (P := Tryz.prog) w 22 9 5 ⟨b, off, none⟩ 16 d.1 (by kernel_rfl) (by kernel_rfl) (by kernel_rfl) (fun j hj => by
    rw [addr_add]
    exact hS.cell (Snap.cell_of hs (h j _ (d.byte (List.getElem?_eq_getElem hj)))))
  rw [d.2] at this
  exact this

theorem run_append_empty {P : Program} {w : World} {t ty e : TypeId} {i : TypeInfo} (ht : P.underlying t = some (.slice e)) (hi : P.info? e = some i) (g : Nat) (a : Option Addr) (c : Nat) :
    (Builtin.append_ #[t, t] ty #[.slice (some ⟨g, 0, none⟩) 1 1, .slice a 0 c]).run P w = .ok (.slice (some ⟨g, 0, none⟩) 1 1) w := by
  cases a <;> simp [Builtin.append_, run_underlying ht, sizeOf, typeInfo, hi, Builtin.lenOf, Builtin.firstCells, storeCells, loadCells, loadCellsFrom]

/-- append(first, moves...): first is a literal of one. -/
theorem append_first {w0 w : World} {H : Snap} (hS : S w0 H w []) {mv : Mv} {cs : Array Value} (hcs : cs.toList = mv.cells) {vm : Value} {ms : List Mv} (hm : Rd H 33 Mv.cells vm ms) (hl : ms.length ≤ 1000) :
    ∃ v' w', (Builtin.append_ #[32, 32] 32 #[.slice (some ⟨w.heap.size, 0, none⟩) 1 1, vm]).run Tryz.prog (w.alloc (.cells cs 34)) = .ok v' w' ∧ SO w0 H w' 34 33 v' ((mv :: ms).map Mv.cells) [] := by
  have hu : Tryz.prog.underlying 32 = some (.slice 34) := by kernel_rfl
  have hinf : ((Tryz.prog.info? 34).map (fun i => (i.zero, i.size, i.bytes)) = some (some (.agg (#[.int .i64 0] ++ Array.replicate 32 (.int .u8 0))), 33, 40)) := by kernel_rfl
  have hsz : cs.size = 33 := by rw [← Array.length_toList, hcs]; exact mv.cells_length
  have hown : SO w0 H (w.alloc (.cells cs 34)) 34 33 (.slice (some ⟨w.heap.size, 0, none⟩) 1 1) [mv.cells] [] :=
    .inr ⟨w.heap.size, 1, rfl, (hS.alloc _).imp fun o ho => ⟨cs, ho, Nat.le_refl _, by decide, by rw [hsz], by
      rw [hcs]
      simp only [List.length_singleton, Nat.one_mul, List.flatten_cons, List.flatten_nil, List.append_nil]
      exact List.take_of_length_le (by rw [mv.cells_length]; exact Nat.le_refl _)⟩⟩
  have hx : ∀ x, x ∈ [mv.cells] → x.length = 33 := fun x h => by rw [List.mem_singleton.1 h]; exact mv.cells_length
  obtain ⟨a, c, rfl, _, _, hr⟩ := hm
  rcases Nat.eq_zero_or_pos ms.length with h0 | hp
  · have : ms = [] := List.length_eq_zero_iff.1 h0
    subst this
    obtain ⟨i, hi, _⟩ := Option.map_eq_some_iff.1 hinf
    exact ⟨_, _, run_append_empty hu hi _ _ _, hown⟩
  · obtain ⟨b, off, rfl, hcell⟩ := hr hp
    have hall : ∀ y, y ∈ ms.map Mv.cells → y.length = 33 := fun y hy => by obtain ⟨m, _, rfl⟩ := List.mem_map.1 hy; exact m.cells_length
    have hflat := flatten_len 33 (ms.map Mv.cells) hall
    rw [List.length_map] at hflat
    refine run_append_at (xs := [mv.cells]) hown hx hu hinf rfl (by decide) ⟨b, off, none⟩ c (ms.map Mv.cells) ms.length (List.length_map _) hall (by rw [List.length_map]; exact hp) (fun j u hj => ?_) (fun u hj => ?_) ?_ ?_
    · have hjl : j < ms.length * 33 := by rw [← hflat]; exact (List.getElem?_eq_some_iff.1 hj).1
      have hq : j / 33 < ms.length := by omega
      have hcl : j % 33 < (ms[j / 33].cells).length := by rw [Mv.cells_length]; omega
      have hz : (ms.map Mv.cells)[j / 33]? = some ms[j / 33].cells := by rw [List.getElem?_map, List.getElem?_eq_getElem hq]; rfl
      have hg := flatten_get 33 (ms.map Mv.cells) hall (j / 33) (j % 33) _ _ hz (List.getElem?_eq_getElem hcl)
      rw [show j / 33 * 33 + j % 33 = j by omega, hj] at hg
      have hc := hcell (j / 33) _ (List.getElem?_eq_getElem hq) (j % 33) _ (List.getElem?_eq_getElem hcl)
      rw [show off + j / 33 * 33 + j % 33 = off + j by omega, ← hg] at hc
      rw [addr_add]
      exact ((hS.alloc _).drop).cell hc
    · obtain ⟨y, hy, hu2⟩ := List.mem_flatten.1 hj
      obtain ⟨m, _, rfl⟩ := List.mem_map.1 hy
      exact m.one u hu2
    · have : (1001 : Nat) ≤ maxLen := by decide
      simp only [List.length_singleton, List.length_map]; omega
    · simp only [List.length_singleton, List.length_map]; omega

theorem wrap_next (s : Int) : s ≠ wrap64 (s + 1) := by
  unfold wrap64
  omega

set_option maxRecDepth 100000 in
set_option maxHeartbeats 4000000 in
theorem law_any (w : World) (hw : SanOK w) (s : Int) (vr : Value) (route : List UInt8) (ek : UInt8) (hv : Rd (snapOf w) 1 bcell vr route) :
    Calls Tryz.prog 3 #[.int .i64 s, vr, .int .u8 ek.toNat] w fun e w' => e = .returned (.bool true) ∧ S w (snapOf w) w' [] := by
  obtain ⟨ar, cr, rfl, _hc1, _hc2, hr⟩ := hv
  have hS0 := S_start w
  generalize hH : snapOf w = H at hr hS0
  have Hs := asid (sanity_any w hw)
  clear hH hw
  go_enter Tryz.func3, Tryz.ntmps3
  by_cases hlong : (20 : Int) < (route.length : Int)
  · go_wp2_with (first | (go_at_call 4; refine Hs.out.mono ?_; rintro e1 w1 ⟨rfl, hg⟩; have HS1 := asid (Grown.S hS0 hg); clear hg))
    go_ret
    exact ⟨rfl, HS1.out⟩
  · by_cases hzero : (route.length : Int) = 0
    · go_wp2_with (first | (go_at_call 4; refine Hs.out.mono ?_; rintro e1 w1 ⟨rfl, hg⟩; have HS1 := asid (Grown.S hS0 hg); clear hg))
      go_ret
      exact ⟨rfl, HS1.out⟩
    · obtain ⟨b, off, rfl, hcell⟩ := hr (by omega)
      have Hcell := asid hcell
      clear hcell hr
      have h0 : 0 < route.length := by omega
      have hl0 : (0 : Int) < (route.length : Int) := by omega
      have hz2 : ((route.length : Int) == 0) = false := by simpa using hzero
      have Hlen := asid (show route.length ≤ 20 by omega)
      have He0 := asid (List.getElem?_eq_getElem h0)
      have Hr0 := asid (show route = route[0] :: route.tail from by cases route with | nil => simp at h0 | cons a r => rfl)
      generalize hx0 : route[0] = x0 at He0 Hr0
      clear hx0
      go_wp2_with (first | (go_at_call 4; refine Hs.out.mono ?_; rintro e1 w1 ⟨rfl, hg⟩; have HS1 := asid (Grown.S hS0 hg); clear hg) | (refine wpList_load_one rfl _ _ rfl rfl (.int .u8 x0.toNat) (fun _ => by kernel_rfl) (by simpa using S.elem HS1.out He0.out Hcell.out _ ⟨0, rfl⟩ 0 _ rfl) ?_) | (go_at_call 5; refine (device_lit HS1.out x0).mono ?_; rintro e2 w2 ⟨rfl, h2⟩; have HS2 := asid h2; clear h2))
      have hA := HS2.out.alloc (.cells #[.int .i64 s, .int .u8 9, .int .u8 x0.toNat, .int .u8 0, .int .u8 0, .int .u8 0, .int .u8 0, .int .u8 0, .int .u8 0, .int .u8 0, .int .u8 0, .int .u8 0, .int .u8 0, .int .u8 0, .int .u8 0, .int .u8 0, .int .u8 0, .string ⟨#[97, 110, 121]⟩, .slice none 0 0, .slice none 0 0] 30)
      obtain ⟨hsub, hB⟩ := S.freeze_row hA
      have hG : (H.put w2.heap.size (.cells #[.int .i64 s, .int .u8 9, .int .u8 x0.toNat, .int .u8 0, .int .u8 0, .int .u8 0, .int .u8 0, .int .u8 0, .int .u8 0, .int .u8 0, .int .u8 0, .int .u8 0, .int .u8 0, .int .u8 0, .int .u8 0, .int .u8 0, .int .u8 0, .string ⟨#[97, 110, 121]⟩, .slice none 0 0, .slice none 0 0] 30)) w2.heap.size = some _ := Snap.put_same _ _ _
      have HG := asid (rd_one (k := 20) (enc := Gr.cells) (x := grOf s x0) hG rfl)
      have Hsub := asid hsub
      clear hG hsub hA
      generalize H.put w2.heap.size _ = H1 at HG Hsub hB
      generalize World.alloc w2 _ = w3 at hB ⊢
      generalize w2.heap.size = G at HG ⊢
      have HB := asid hB
      clear hB
      have hlen20 : (route.length : Int) ≤ 20 := by omega
      have hlen1 : 1 ≤ route.length := by omega
      go_loopg [9, 10] route.length (fun g' s9 s10 wr => ∃ kk : Nat, 1 ≤ kk ∧ kk ≤ route.length ∧ route.length - kk ≤ g' ∧ s10 = .int .i64 kk ∧ SO w H1 wr 34 33 s9 (((movesOf s route).take (kk - 1)).map Mv.cells) [])
      case atStart => exact ⟨1, Nat.le_refl _, hlen1, by omega, rfl, SO.nil _ _ HB.out⟩
      case round =>
        obtain ⟨kk, hk1, hkk, hgk, rfl, hSO⟩ := hrel
        by_cases hlt : kk < route.length
        · have hltz : (kk : Int) < (route.length : Int) := by omega
          have HSO := asid hSO
          clear hSO
          go_wp2_with fail
          obtain ⟨C, hC, hback⟩ := HSO.out.both
          have hx : route[kk - 1]? = some (route[kk - 1]'(by omega)) := List.getElem?_eq_getElem (by omega)
          have hy : route[kk]? = some route[kk] := List.getElem?_eq_getElem hlt
          have hmv := movesOf_get s route (i := kk - 1) (by omega)
          have hcx : H1.cell ⟨b, off + (kk - 1), none⟩ = some (.int .u8 (route[kk - 1]'(by omega)).toNat) := by
            have := Snap.cell_of Hsub.out (Hcell.out (kk - 1) _ hx 0 _ rfl)
            simpa using this
          have hcy : H1.cell ⟨b, off + kk, none⟩ = some (.int .u8 route[kk].toNat) := by
            have := Snap.cell_of Hsub.out (Hcell.out kk _ hy 0 _ rfl)
            simpa using this
          have hk2 : route[kk - 1 + 1]'(by omega) = route[kk] := by congr 1; omega
          rw [hk2] at hmv
          generalize route[kk - 1]'(by omega) = x at hmv hcx
          generalize route[kk] = y at hmv hcy
          have Hmv := asid hmv
          clear hx hy hmv hk2
          refine wp_region_phi_t _ 15 (by kernel_rfl) (by kernel_rfl) hC (fun i Hh v => match i with
            | 0 => v = u9
            | 1 => v = .int .i64 s
            | 2 => v = (.slice (some ⟨b, off, none⟩) route.length cr)
            | 3 => v = .int .i64 kk
            | 4 => v = .int .i64 (kk - 1 : Nat)
            | 5 => v = .pointer (some ⟨b, off + (kk - 1), none⟩)
            | 6 => v = .int .u8 x.toNat
            | 7 => v = (.agg #[.int .u8 9, .int .u8 x.toNat, .int .u8 0, .int .u8 0, .int .u8 0, .int .u8 0, .int .u8 0, .int .u8 0, .int .u8 0, .int .u8 0, .int .u8 0, .int .u8 0, .int .u8 0, .int .u8 0, .int .u8 0, .int .u8 0])
            | 8 => v = (.slice (some ⟨b, off, none⟩) route.length cr)
            | 9 => v = .int .i64 kk
            | 10 => v = .pointer (some ⟨b, off + kk, none⟩)
            | 11 => v = .int .u8 y.toNat
            | 12 => v = (.agg #[.int .u8 9, .int .u8 y.toNat, .int .u8 0, .int .u8 0, .int .u8 0, .int .u8 0, .int .u8 0, .int .u8 0, .int .u8 0, .int .u8 0, .int .u8 0, .int .u8 0, .int .u8 0, .int .u8 0, .int .u8 0, .int .u8 0])
            | 13 => v = .agg #[.int .i64 s, .int .u8 9, .int .u8 x.toNat, .int .u8 0, .int .u8 0, .int .u8 0, .int .u8 0, .int .u8 0, .int .u8 0, .int .u8 0, .int .u8 0, .int .u8 0, .int .u8 0, .int .u8 0, .int .u8 0, .int .u8 0, .int .u8 0, .int .u8 9, .int .u8 y.toNat, .int .u8 0, .int .u8 0, .int .u8 0, .int .u8 0, .int .u8 0, .int .u8 0, .int .u8 0, .int .u8 0, .int .u8 0, .int .u8 0, .int .u8 0, .int .u8 0, .int .u8 0, .int .u8 0]
            | 14 => ∃ g, v = .slice (some ⟨g, 0, none⟩) 1 1 ∧ Hh g = some (.cells #[.int .i64 s, .int .u8 9, .int .u8 x.toNat, .int .u8 0, .int .u8 0, .int .u8 0, .int .u8 0, .int .u8 0, .int .u8 0, .int .u8 0, .int .u8 0, .int .u8 0, .int .u8 0, .int .u8 0, .int .u8 0, .int .u8 0, .int .u8 0, .int .u8 9, .int .u8 y.toNat, .int .u8 0, .int .u8 0, .int .u8 0, .int .u8 0, .int .u8 0, .int .u8 0, .int .u8 0, .int .u8 0, .int .u8 0, .int .u8 0, .int .u8 0, .int .u8 0, .int .u8 0, .int .u8 0] 34)
            | _ => True) ?mono ?step ?fin
          case mono =>
            intro i Ha Hb v hi hs hp
            match i, hi with
            | 14, _ => obtain ⟨g, h1, h2⟩ := hp; exact ⟨g, h1, hs _ _ h2⟩
            | 0, _ => exact hp
            | 1, _ => exact hp
            | 2, _ => exact hp
            | 3, _ => exact hp
            | 4, _ => exact hp
            | 5, _ => exact hp
            | 6, _ => exact hp
            | 7, _ => exact hp
            | 8, _ => exact hp
            | 9, _ => exact hp
            | 10, _ => exact hp
            | 11, _ => exact hp
            | 12, _ => exact hp
            | 13, _ => exact hp
          case step =>
            intro i o hi ho Hn wn a vs hsn hSn hold hd
            have id_ := Snap.Sub.refl Hn
            match i, hi, ho with
            | 0, _, ho =>
              cases ho
              have e9 : a.eval (.tmp 9) = u9 := (hold 9 (by decide)).trans rfl
              exact .inl ⟨rfl, phi_value (by simp [execOp, e9]) id_ hSn rfl⟩
            | 1, _, ho =>
              cases ho
              have e0 : a.eval (.tmp 0) = .int .i64 s := (hold 0 (by decide)).trans rfl
              exact .inl ⟨rfl, phi_value (by simp [execOp, e0]) id_ hSn rfl⟩
            | 2, _, ho =>
              cases ho
              have e1 : a.eval (.tmp 1) = (.slice (some ⟨b, off, none⟩) route.length cr) := (hold 1 (by decide)).trans rfl
              exact .inl ⟨rfl, phi_value (by simp [execOp, e1]) id_ hSn rfl⟩
            | 3, _, ho =>
              cases ho
              have e10 : a.eval (.tmp 10) = .int .i64 kk := (hold 10 (by decide)).trans rfl
              exact .inl ⟨rfl, phi_value (by simp [execOp, e10]) id_ hSn rfl⟩
            | 4, _, ho =>
              cases ho
              have e42 : a.eval (.tmp 42) = .int .i64 kk := dep_eval (hd 3 (by kernel_rfl) _ _ rfl rfl)
              refine .inl ⟨rfl, phi_value ?_ id_ hSn rfl⟩
              simp only [execOp, e42, BigFrame.eval_const]
              simp [go_sem]
              rw [show ((kk - 1 : Nat) : Int) = (kk : Int) - 1 by omega]
              exact IntWalk.i64_in _ (by omega)
            | 5, _, ho =>
              cases ho
              have e41 : a.eval (.tmp 41) = (.slice (some ⟨b, off, none⟩) route.length cr) := dep_eval (hd 2 (by kernel_rfl) _ _ rfl rfl)
              have e43 : a.eval (.tmp 43) = .int .i64 (kk - 1 : Nat) := dep_eval (hd 4 (by kernel_rfl) _ _ rfl rfl)
              refine .inl ⟨rfl, phi_value ?_ id_ hSn rfl⟩
              simp only [execOp, e41, e43]
              simp [go_sem]
              intro hbad
              omega
            | 6, _, ho =>
              cases ho
              have e44 : a.eval (.tmp 44) = .pointer (some ⟨b, off + (kk - 1), none⟩) := dep_eval (hd 5 (by kernel_rfl) _ _ rfl rfl)
              have hc := hSn.cell (Snap.cell_of hsn hcx)
              refine .inl ⟨rfl, phi_value ?_ id_ hSn rfl⟩
              simp only [execOp, e44]
              simp [go_sem, hc]
            | 7, _, ho =>
              cases ho
              have e45 : a.eval (.tmp 45) = .int .u8 x.toNat := dep_eval (hd 6 (by kernel_rfl) _ _ rfl rfl)
              refine .inl ⟨rfl, phi_enter (f := 5) (args := #[.int .u8 x.toNat]) (w' := wn) ?_ ((device_lit hSn x).mono ?_)⟩
              · simp only [execOp, resolve, List.map_toArray, List.map_cons, List.map_nil, e45, BigFrame.eval_func, Deferred.ofValue, Sem.run_bind, Sem.run_pure, Result.andThen, invoke]
                exact run_callFunc_body device_body _ _
              · rintro e wd ⟨rfl, hwd⟩
                exact ⟨_, rfl, Hn, id_, hwd, rfl⟩
            | 8, _, ho =>
              cases ho
              have e1 : a.eval (.tmp 1) = (.slice (some ⟨b, off, none⟩) route.length cr) := (hold 1 (by decide)).trans rfl
              exact .inl ⟨rfl, phi_value (by simp [execOp, e1]) id_ hSn rfl⟩
            | 9, _, ho =>
              cases ho
              have e10 : a.eval (.tmp 10) = .int .i64 kk := (hold 10 (by decide)).trans rfl
              exact .inl ⟨rfl, phi_value (by simp [execOp, e10]) id_ hSn rfl⟩
            | 10, _, ho =>
              cases ho
              have e47 : a.eval (.tmp 47) = (.slice (some ⟨b, off, none⟩) route.length cr) := dep_eval (hd 8 (by kernel_rfl) _ _ rfl rfl)
              have e48 : a.eval (.tmp 48) = .int .i64 kk := dep_eval (hd 9 (by kernel_rfl) _ _ rfl rfl)
              refine .inl ⟨rfl, phi_value ?_ id_ hSn rfl⟩
              simp only [execOp, e47, e48]
              simp [go_sem]
              intro hbad
              omega
            | 11, _, ho =>
              cases ho
              have e49 : a.eval (.tmp 49) = .pointer (some ⟨b, off + kk, none⟩) := dep_eval (hd 10 (by kernel_rfl) _ _ rfl rfl)
              have hc := hSn.cell (Snap.cell_of hsn hcy)
              refine .inl ⟨rfl, phi_value ?_ id_ hSn rfl⟩
              simp only [execOp, e49]
              simp [go_sem, hc]
            | 12, _, ho =>
              cases ho
              have e50 : a.eval (.tmp 50) = .int .u8 y.toNat := dep_eval (hd 11 (by kernel_rfl) _ _ rfl rfl)
              refine .inl ⟨rfl, phi_enter (f := 5) (args := #[.int .u8 y.toNat]) (w' := wn) ?_ ((device_lit hSn y).mono ?_)⟩
              · simp only [execOp, resolve, List.map_toArray, List.map_cons, List.map_nil, e50, BigFrame.eval_func, Deferred.ofValue, Sem.run_bind, Sem.run_pure, Result.andThen, invoke]
                exact run_callFunc_body device_body _ _
              · rintro e wd ⟨rfl, hwd⟩
                exact ⟨_, rfl, Hn, id_, hwd, rfl⟩
            | 13, _, ho =>
              cases ho
              have e40 : a.eval (.tmp 40) = .int .i64 s := dep_eval (hd 1 (by kernel_rfl) _ _ rfl rfl)
              have e46 : a.eval (.tmp 46) = (.agg #[.int .u8 9, .int .u8 x.toNat, .int .u8 0, .int .u8 0, .int .u8 0, .int .u8 0, .int .u8 0, .int .u8 0, .int .u8 0, .int .u8 0, .int .u8 0, .int .u8 0, .int .u8 0, .int .u8 0, .int .u8 0, .int .u8 0]) := dep_eval (hd 7 (by kernel_rfl) _ _ rfl rfl)
              have e51 : a.eval (.tmp 51) = (.agg #[.int .u8 9, .int .u8 y.toNat, .int .u8 0, .int .u8 0, .int .u8 0, .int .u8 0, .int .u8 0, .int .u8 0, .int .u8 0, .int .u8 0, .int .u8 0, .int .u8 0, .int .u8 0, .int .u8 0, .int .u8 0, .int .u8 0]) := dep_eval (hd 12 (by kernel_rfl) _ _ rfl rfl)
              refine .inl ⟨rfl, phi_value ?_ id_ hSn rfl⟩
              simp only [execOp, List.map_toArray, List.map_cons, List.map_nil, e40, e46, e51]
              simp [go_sem]
            | 14, _, ho =>
              cases ho
              have e52 : a.eval (.tmp 52) = .agg #[.int .i64 s, .int .u8 9, .int .u8 x.toNat, .int .u8 0, .int .u8 0, .int .u8 0, .int .u8 0, .int .u8 0, .int .u8 0, .int .u8 0, .int .u8 0, .int .u8 0, .int .u8 0, .int .u8 0, .int .u8 0, .int .u8 0, .int .u8 0, .int .u8 9, .int .u8 y.toNat, .int .u8 0, .int .u8 0, .int .u8 0, .int .u8 0, .int .u8 0, .int .u8 0, .int .u8 0, .int .u8 0, .int .u8 0, .int .u8 0, .int .u8 0, .int .u8 0, .int .u8 0, .int .u8 0] := dep_eval (hd 13 (by kernel_rfl) _ _ rfl rfl)
              obtain ⟨hs2, hS2⟩ := S.freeze_row (hSn.alloc (.cells #[.int .i64 s, .int .u8 9, .int .u8 x.toNat, .int .u8 0, .int .u8 0, .int .u8 0, .int .u8 0, .int .u8 0, .int .u8 0, .int .u8 0, .int .u8 0, .int .u8 0, .int .u8 0, .int .u8 0, .int .u8 0, .int .u8 0, .int .u8 0, .int .u8 9, .int .u8 y.toNat, .int .u8 0, .int .u8 0, .int .u8 0, .int .u8 0, .int .u8 0, .int .u8 0, .int .u8 0, .int .u8 0, .int .u8 0, .int .u8 0, .int .u8 0, .int .u8 0, .int .u8 0, .int .u8 0] 34))
              refine .inl ⟨rfl, phi_value ?_ hs2 hS2 ⟨wn.heap.size, rfl, Snap.put_same _ _ _⟩⟩
              simp only [execOp, List.map_toArray, List.map_cons, List.map_nil, e52]
              simp [go_sem]
          case fin =>
            intro Hh wh vs hsh hSh hphi
            have p0 : vs 0 = u9 := hphi 0 (by omega)
            obtain ⟨g, p14, hg⟩ := hphi 14 (by omega)
            have Hlast := asid (hback _ _ _ (hSh.less hsh))
            have hcells : ∀ (j : Nat) u, (Mv.cells ⟨s, devD x, devD y⟩)[j]? = some u → wh.cell? ((⟨g, 0, none⟩ : Addr).add j) = some u := by
              intro j u hj
              have hj2 : (#[.int .i64 s, .int .u8 9, .int .u8 x.toNat, .int .u8 0, .int .u8 0, .int .u8 0, .int .u8 0, .int .u8 0, .int .u8 0, .int .u8 0, .int .u8 0, .int .u8 0, .int .u8 0, .int .u8 0, .int .u8 0, .int .u8 0, .int .u8 0, .int .u8 9, .int .u8 y.toNat, .int .u8 0, .int .u8 0, .int .u8 0, .int .u8 0, .int .u8 0, .int .u8 0, .int .u8 0, .int .u8 0, .int .u8 0, .int .u8 0, .int .u8 0, .int .u8 0, .int .u8 0, .int .u8 0] : Array Value)[j]? = some u := by rw [← Array.getElem?_toList]; exact hj
              refine hSh.cell ?_
              rw [addr_add]
              show cellOf (Hh g) ⟨g, 0 + j, none⟩ = some u
              rw [hg, Nat.zero_add]
              exact hj2
            have hu : Tryz.prog.underlying 32 = some (.slice 34) := by kernel_rfl
            have hinf : ((Tryz.prog.info? 34).map (fun i => (i.zero, i.size, i.bytes)) = some (some (.agg (#[.int .i64 0] ++ Array.replicate 32 (.int .u8 0))), 33, 40)) := by kernel_rfl
            simp only [List.drop, List.take, putAll, Act.put, List.setIfInBounds_toArray, List.set_cons_succ, List.set_cons_zero]
            have Bl : (((movesOf s route).take (kk - 1)).map Mv.cells).length = kk - 1 := by
              rw [List.length_map, List.length_take, movesOf_length]; omega
            have hbig : (1000 : Nat) ≤ maxLen := by decide
            refine wpList_append_S rfl (.tmp 39) (.tmp 53) 32 rfl _ 40 hu hinf rfl (by decide) ((rfl : _ = vs 0).trans p0) Hlast.out (fun z hz => by obtain ⟨m, _, rfl⟩ := List.mem_map.1 hz; exact m.cells_length) ⟨g, 0, none⟩ 1 (Mv.cells ⟨s, devD x, devD y⟩) ((rfl : _ = vs 14).trans p14) (Mv.cells_length _) hcells (Mv.one _) (by rw [Bl]; omega) (by rw [Bl]; omega) ?_
            intro v' w' hS'
            have HS' := asid hS'
            clear hS'
            go_wp2
            go_roundg (route.length - (kk + 1))
            case measure => omega
            case rel =>
              refine ⟨kk + 1, by omega, by omega, by omega, by go_num, ?_⟩
              have ht : (movesOf s route).take (kk + 1 - 1) = (movesOf s route).take (kk - 1) ++ [⟨s, devD x, devD y⟩] := by
                rw [show kk + 1 - 1 = kk - 1 + 1 by omega, List.take_add_one, Hmv.out]; rfl
              rw [ht, List.map_append]
              exact HS'.out
        · have hltz : ¬ (kk : Int) < (route.length : Int) := by omega
          have : kk = route.length := by omega
          subst this
          have htk : (movesOf s route).take (route.length - 1) = movesOf s route := by
            rw [← movesOf_length s route, List.take_length]
          rw [htk] at hSO
          obtain ⟨H2, hs2, hS2, hRd2⟩ := SO.freeze hSO Mv.cells_length
          have HG2 := asid (HG.out.sub hs2)
          have HM := asid hRd2
          have HS3 := asid hS2
          have Hsub2 := asid (Hsub.out.trans hs2)
          clear hSO hs2 hS2 hRd2 htk hgk hkk hk1 HG Hsub
          have Hml := asid (show (movesOf s route).length ≤ 1000 by have := Hlen.out; rw [movesOf_length]; omega)
          have Hhc := asid (show holders [grOf s x0] (movesOf s route) s = held route by rw [Hr0.out]; exact holders_chain s x0 _)
          go_wp2_with (first | (go_at_call 6; refine (Holders_any HS3.out _ _ [grOf s x0] (movesOf s route) s HG2.out HM.out (by simp) Hml.out).mono ?_; rintro e4 w4 ⟨v4, rfl, h4⟩; have H4 := asid h4; clear h4))
          obtain ⟨H3, hs3, hS3, hRd3⟩ := SO.freeze H4.out Dig.cells_length
          rw [Hhc.out] at hRd3
          have HG3 := asid (HG2.out.sub hs3)
          have HM3 := asid (HM.out.sub hs3)
          have HL3 := asid hRd3
          have HS4 := asid hS3
          have Hsub3 := asid (Hsub2.out.trans hs3)
          clear hs3 hS3 hRd3 HG2 HM Hsub2 H4 HS3
          go_loopg [12] route.length (fun g' s12 wr => ∃ kk : Nat, kk ≤ route.length ∧ route.length - kk ≤ g' ∧ s12 = .int .i64 kk ∧ S w H3 wr [])
          case atStart => exact ⟨0, Nat.zero_le _, by omega, rfl, HS4.out⟩
          case round =>
            obtain ⟨kk, hkk, hgk, rfl, hSr⟩ := hrel
            by_cases hlt : kk < route.length
            · have hltz : (kk : Int) < (route.length : Int) := by omega
              have hy : route[kk]? = some route[kk] := List.getElem?_eq_getElem hlt
              have Hcy := asid (fun (wn : World) (hn : S w H3 wn []) => hn.cell (Snap.cell_of Hsub3.out (Hcell.out kk _ hy 0 _ rfl)))
              have Hin := asid (mem_held (List.getElem_mem hlt))
              clear hy
              generalize route[kk] = y at Hcy Hin
              have HSr := asid hSr
              clear hSr
              go_wp2_with (first | (refine wpList_load_one rfl _ _ rfl rfl (.int .u8 y.toNat) (fun _ => by kernel_rfl) (by simpa using Hcy.out _ HSr.out) ?_) | (go_at_call 5; refine (device_any HSr.out y).mono ?_; rintro e5 w5 ⟨rfl, h5⟩; have HS5 := asid h5; clear h5) | (go_at_call 7; refine (In_any HS5.out _ _ (devD y) HL3.out (by have := held_length route; have := Hlen.out; omega)).mono ?_; rintro e6 w6 ⟨rfl, h6⟩; have HS6 := asid h6; clear h6; rw [decide_eq_true Hin.out]))
              go_roundg (route.length - (kk + 1))
              case measure => omega
              case rel => exact ⟨kk + 1, by omega, by omega, by go_num, HS6.out⟩
            · have hltz : ¬ (kk : Int) < (route.length : Int) := by omega
              have : kk = route.length := by omega
              subst this
              have HS5 := asid hSr
              clear hSr hgk hkk
              obtain ⟨a4, c4, rfl, _hd1, _hd2, hr4⟩ := HL3.out
              have Hr4 := asid hr4
              have Hsorted := asid (held_sorted route)
              have Hn4 := asid (show (held route).length ≤ 20 from Nat.le_trans (held_length route) Hlen.out)
              have Hfin2 := asid (show ∀ e, holders [grOf s x0] (⟨s, two 8 e, two 7 0⟩ :: movesOf s route) s = held route from fun e => by rw [Hr0.out]; exact holders_early s x0 e _)
              clear hr4
              generalize held route = ls at HL3 Hr4 Hsorted Hn4 Hfin2 _hd1 ⊢
              go_wp2
              have hn4 : (ls.length : Int) ≤ 20 := by have := Hn4.out; omega
              go_loopg [13] ls.length (fun g' s13 wr => ∃ kk : Nat, 1 ≤ kk ∧ kk ≤ ls.length + 1 ∧ ls.length - kk ≤ g' ∧ s13 = .int .i64 kk ∧ S w H3 wr [])
              case atStart => exact ⟨1, Nat.le_refl _, by omega, by omega, rfl, HS5.out⟩
              case round =>
                obtain ⟨kk, hk1, hkk, hgk, rfl, hSr⟩ := hrel
                by_cases hlt : kk < ls.length
                · have hltz : (kk : Int) < (ls.length : Int) := by omega
                  obtain ⟨b4, off4, rfl, hcell4⟩ := Hr4.out (by omega)
                  have hord := List.pairwise_iff_getElem.1 Hsorted.out (kk - 1) kk (by omega) hlt (by omega)
                  have hcx := hcell4 (kk - 1) _ (List.getElem?_eq_getElem (by omega))
                  have hcy := hcell4 kk _ (List.getElem?_eq_getElem hlt)
                  generalize ls[kk - 1]'(by omega) = x at hord hcx
                  generalize ls[kk] = y at hord hcy
                  go_wp2_with fail
                  refine wp_region_phi_t _ 12 (by kernel_rfl) (by kernel_rfl) hSr (fun i _ v => match i with
                    | 0 => v = .slice (some ⟨b4, off4, none⟩) ls.length c4
                    | 1 => v = .int .i64 kk
                    | 2 => v = .int .i64 (kk - 1 : Nat)
                    | 3 => v = .pointer (some ⟨b4, off4 + (kk - 1) * 16, none⟩)
                    | 4 => v = .slice (some ⟨b4, off4 + (kk - 1) * 16, none⟩) 16 16
                    | 5 => v = .string ⟨x.1.toArray⟩
                    | 6 => v = .slice (some ⟨b4, off4, none⟩) ls.length c4
                    | 7 => v = .int .i64 kk
                    | 8 => v = .pointer (some ⟨b4, off4 + kk * 16, none⟩)
                    | 9 => v = .slice (some ⟨b4, off4 + kk * 16, none⟩) 16 16
                    | 10 => v = .string ⟨y.1.toArray⟩
                    | 11 => v = .bool false
                    | _ => True) ?mono ?step ?fin
                  case mono => exact fun i Ha Hb v hi hs hp => hp
                  case step =>
                    intro i o hi ho Hn wn a vs hsn hSn hold hd
                    have id_ := Snap.Sub.refl Hn
                    match i, hi, ho with
                    | 0, _, ho =>
                      cases ho
                      have e11 : a.eval (.tmp 11) = .slice (some ⟨b4, off4, none⟩) ls.length c4 := (hold 11 (by decide)).trans rfl
                      exact .inl ⟨rfl, phi_value (by simp [execOp, e11]) id_ hSn rfl⟩
                    | 1, _, ho =>
                      cases ho
                      have e13 : a.eval (.tmp 13) = .int .i64 kk := (hold 13 (by decide)).trans rfl
                      exact .inl ⟨rfl, phi_value (by simp [execOp, e13]) id_ hSn rfl⟩
                    | 2, _, ho =>
                      cases ho
                      have e80 : a.eval (.tmp 80) = .int .i64 kk := dep_eval (hd 1 (by kernel_rfl) _ _ rfl rfl)
                      refine .inl ⟨rfl, phi_value ?_ id_ hSn rfl⟩
                      simp only [execOp, e80, BigFrame.eval_const]
                      simp [go_sem]
                      rw [show ((kk - 1 : Nat) : Int) = (kk : Int) - 1 by omega]
                      exact IntWalk.i64_in _ (by omega)
                    | 3, _, ho =>
                      cases ho
                      have e79 : a.eval (.tmp 79) = .slice (some ⟨b4, off4, none⟩) ls.length c4 := dep_eval (hd 0 (by kernel_rfl) _ _ rfl rfl)
                      have e81 : a.eval (.tmp 81) = .int .i64 (kk - 1 : Nat) := dep_eval (hd 2 (by kernel_rfl) _ _ rfl rfl)
                      refine .inl ⟨rfl, phi_value ?_ id_ hSn rfl⟩
                      simp only [execOp, e79, e81]
                      simp [go_sem]
                      intro hbad
                      omega
                    | 4, _, ho =>
                      cases ho
                      have e82 : a.eval (.tmp 82) = .pointer (some ⟨b4, off4 + (kk - 1) * 16, none⟩) := dep_eval (hd 3 (by kernel_rfl) _ _ rfl rfl)
                      refine .inl ⟨rfl, phi_value ?_ id_ hSn rfl⟩
                      simp only [execOp, e82]
                      simp [go_sem]
                    | 5, _, ho =>
                      cases ho
                      have e83 : a.eval (.tmp 83) = .slice (some ⟨b4, off4 + (kk - 1) * 16, none⟩) 16 16 := dep_eval (hd 4 (by kernel_rfl) _ _ rfl rfl)
                      refine .inl ⟨rfl, phi_value ?_ id_ hSn rfl⟩
                      simp only [execOp, e83]
                      simp [go_sem]
                      rw [conv_dig hSn (Snap.Sub.trans hsn id_) hcx]
                      rfl
                    | 6, _, ho =>
                      cases ho
                      have e11 : a.eval (.tmp 11) = .slice (some ⟨b4, off4, none⟩) ls.length c4 := (hold 11 (by decide)).trans rfl
                      exact .inl ⟨rfl, phi_value (by simp [execOp, e11]) id_ hSn rfl⟩
                    | 7, _, ho =>
                      cases ho
                      have e13 : a.eval (.tmp 13) = .int .i64 kk := (hold 13 (by decide)).trans rfl
                      exact .inl ⟨rfl, phi_value (by simp [execOp, e13]) id_ hSn rfl⟩
                    | 8, _, ho =>
                      cases ho
                      have e85 : a.eval (.tmp 85) = .slice (some ⟨b4, off4, none⟩) ls.length c4 := dep_eval (hd 6 (by kernel_rfl) _ _ rfl rfl)
                      have e86 : a.eval (.tmp 86) = .int .i64 kk := dep_eval (hd 7 (by kernel_rfl) _ _ rfl rfl)
                      refine .inl ⟨rfl, phi_value ?_ id_ hSn rfl⟩
                      simp only [execOp, e85, e86]
                      simp [go_sem]
                      intro hbad
                      omega
                    | 9, _, ho =>
                      cases ho
                      have e87 : a.eval (.tmp 87) = .pointer (some ⟨b4, off4 + kk * 16, none⟩) := dep_eval (hd 8 (by kernel_rfl) _ _ rfl rfl)
                      refine .inl ⟨rfl, phi_value ?_ id_ hSn rfl⟩
                      simp only [execOp, e87]
                      simp [go_sem]
                    | 10, _, ho =>
                      cases ho
                      have e88 : a.eval (.tmp 88) = .slice (some ⟨b4, off4 + kk * 16, none⟩) 16 16 := dep_eval (hd 9 (by kernel_rfl) _ _ rfl rfl)
                      refine .inl ⟨rfl, phi_value ?_ id_ hSn rfl⟩
                      simp only [execOp, e88]
                      simp [go_sem]
                      rw [conv_dig hSn (Snap.Sub.trans hsn id_) hcy]
                      rfl
                    | 11, _, ho =>
                      cases ho
                      have e84 : a.eval (.tmp 84) = .string ⟨x.1.toArray⟩ := dep_eval (hd 5 (by kernel_rfl) _ _ rfl rfl)
                      have e89 : a.eval (.tmp 89) = .string ⟨y.1.toArray⟩ := dep_eval (hd 10 (by kernel_rfl) _ _ rfl rfl)
                      refine .inl ⟨rfl, phi_value ?_ id_ hSn rfl⟩
                      simp only [execOp, e84, e89]
                      simp [go_sem]
                      exact less_cmp hord
                  case fin =>
                    intro Hh wh vs hsh hSh hphi
                    have p11 : vs 11 = .bool false := hphi 11 (by omega)
                    have HSh := asid (hSh.less hsh)
                    simp only [List.drop, List.take, putAll, Act.put, List.setIfInBounds_toArray, List.set_cons_succ, List.set_cons_zero, p11]
                    go_wp2
                    go_roundg (ls.length - (kk + 1))
                    case measure => omega
                    case rel => exact ⟨kk + 1, by omega, by omega, by omega, by go_num, HSh.out⟩
                · have hltz : ¬ (kk : Int) < (ls.length : Int) := by omega
                  have HS6 := asid hSr
                  clear hSr hgk hkk hk1 hlt
                  have HRUN := asid (append_first HS6.out (mv := ⟨s, two 8 ek, two 7 0⟩) (cs := #[.int .i64 s, .int .u8 8, .int .u8 ek.toNat, .int .u8 0, .int .u8 0, .int .u8 0, .int .u8 0, .int .u8 0, .int .u8 0, .int .u8 0, .int .u8 0, .int .u8 0, .int .u8 0, .int .u8 0, .int .u8 0, .int .u8 0, .int .u8 0, .int .u8 7, .int .u8 0, .int .u8 0, .int .u8 0, .int .u8 0, .int .u8 0, .int .u8 0, .int .u8 0, .int .u8 0, .int .u8 0, .int .u8 0, .int .u8 0, .int .u8 0, .int .u8 0, .int .u8 0, .int .u8 0]) rfl HM3.out Hml.out)
                  have Hother := asid (holders_other s _ (wrap_next s) x0 route)
                  go_wp2_with (first | (at_builtin; refine wpList_append_run_S rfl _ _ 32 32 rfl _ _ rfl rfl HRUN.out ?_; intro v7 w7 h7; obtain ⟨H7, hs7, hS7, hR7⟩ := SO.freeze h7 Mv.cells_length; have HS7 := asid hS7; have HG7 := asid (HG3.out.sub hs7); have HM7 := asid hR7; have HN7 := asid (HM3.out.sub hs7); have HL7 := asid (HL3.out.sub hs7); have Hsub7 := asid (Snap.Sub.trans Hsub3.out hs7); clear h7 hs7 hS7 hR7) | (go_at_call 6; refine (Holders_any HS7.out _ _ [grOf s x0] (⟨s, two 8 ek, two 7 0⟩ :: movesOf s route) s HG7.out HM7.out (by simp) (by have := Hlen.out; rw [List.length_cons, movesOf_length]; omega)).mono ?_; rintro e8 w8 ⟨v8, rfl, h8⟩; have H8 := asid h8; clear h8))
                  obtain ⟨H8s, hs8, hS8, hR8⟩ := SO.freeze H8.out Dig.cells_length
                  rw [Hfin2.out ek] at hR8
                  have HS8 := asid hS8
                  have HR8 := asid hR8
                  have HG8 := asid (HG7.out.sub hs8)
                  have HN8 := asid (HN7.out.sub hs8)
                  have HL8 := asid (HL7.out.sub hs8)
                  have Hsub8 := asid (Snap.Sub.trans Hsub7.out hs8)
                  clear hs8 hS8 hR8
                  refine (Digests_any HS8.out _ _ ls ls HR8.out HL8.out (by have := Hn4.out; omega) (by have := Hn4.out; omega)).mono ?_
                  rintro e9 w9 ⟨rfl, h9⟩
                  have HS9 := asid h9
                  clear h9
                  rw [decide_eq_true (rfl : ls = ls)]
                  go_wp2_with fail
                  refine (Holders_any HS9.out _ _ [grOf s x0] (movesOf s route) (wrap64 (s + 1)) HG8.out HN8.out (by simp) Hml.out).mono ?_
                  rintro e10 w10 ⟨v10, rfl, h10⟩
                  rw [Hother.out] at h10
                  obtain ⟨a10, c10, rfl⟩ := h10.slice
                  have HS10 := asid (h10.base.less Hsub8.out)
                  clear h10
                  simp only [List.map_nil, List.length_nil]
                  go_wp2_with fail
                  go_ret
                  exact ⟨rfl, HS10.out⟩
end Go.Proofs.Bc
