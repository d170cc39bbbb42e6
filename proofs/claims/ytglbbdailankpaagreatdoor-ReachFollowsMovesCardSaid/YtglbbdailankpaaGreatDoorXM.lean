/- The executor's operations against the model's, one by one: bytes and strings, append, copy. -/
import Derived.Test.YtglbbdailankpaaGreatDoorXL
import Derived.Laws.IdiomStrings
namespace Go.Proofs.Bc
open Go
variable {P : Program} {ι : Ren} {st st' : St} {w : World} {a : AV} {rec : Bool} {ev : Operand → Value} {ρ : Operand → Option AV}

theorem bytesX_rel : ∀ {cs : List AV} {bs : List UInt8}, bytesX cs = some bs → ∀ {vs : List Value}, Rels ι cs vs → vs = bs.map fun b => .int .u8 b.toNat
  | [], bs, h, vs, hr => by
    simp only [bytesX, Option.some.injEq] at h
    rw [Rels.nil_iff] at hr
    subst h hr; rfl
  | c :: cs, bs, h, vs, hr => by
    rw [Rels.cons_iff] at hr
    obtain ⟨v, r, h1, h2, rfl⟩ := hr
    unfold bytesX at h
    split at h
    · rename_i e; cases e
    · rename_i n r' e
      cases e
      split at h
      · rename_i l hlt hb
        simp only [Option.some.injEq] at h
        subst h
        simp only [Rel] at h1
        subst h1
        have hn : n < 256 := bltT.1 hlt
        rw [bytesX_rel hb h2, List.map_cons]
        congr 2
        simp only [UInt8.toNat_ofNat']
        rw [Nat.mod_eq_of_lt hn]; rfl
      · cases h
    · cases h

theorem isByteSlice_spec {t : TypeId} (h : isByteSlice P t = true) : ∃ e, P.underlying t = some (.slice e) ∧ P.underlying e = some (.int .u8) := by
  unfold isByteSlice at h
  split at h
  · rename_i e hu
    split at h
    · rename_i he; exact ⟨e, hu, he⟩
    · cases h
  · cases h
theorem isStr_spec {t : TypeId} (h : isStr P t = true) : P.underlying t = some .string := by
  unfold isStr at h
  split at h
  · rename_i hu; exact hu
  · cases h

theorem convX_spec (hI : Inv P ι st w) {src dst : TypeId} {x : AV} (h : convX P src dst x st = some (a, st')) {v : Value} (hx : Rel ι x v) :
    ∃ u w', (convert src dst v).run P w = .ok u w' ∧ Out P ι st w a st' u w' := by
  unfold convX at h
  split at h
  · rename_i s
    simp only [Rel] at hx
    subst hx
    split at h
    · rename_i h1 h2
      obtain ⟨e, hd, he⟩ := isByteSlice_spec h2
      split at h
      · rename_i e' hd'
        rw [hd] at hd'
        cases hd'
        split at h
        · split at h
          · rename_i l st2 hnew
            simp only [forceN_eq, Option.some.injEq, Prod.mk.injEq] at h
            obtain ⟨rfl, rfl⟩ := h
            have hrun := run_bytes_of_string (P := P) w src dst e s (isStr_spec h1) hd he
            have hge := grownCap_ge w s.size 0 e
            obtain ⟨row, hrow⟩ : ∃ row : Array Value, row = bytesRow s (grownCap w s.size 0 e) := ⟨_, rfl⟩
            rw [← hrow] at hrun
            have hsz : row.size = grownCap w s.size 0 e := by
              have : s.data.size = s.size := rfl
              rw [hrow]; simp [bytesRow, this]; omega
            have htake : row.toList.take s.size = s.data.toList.map fun b => .int .u8 b.toNat := by
              have hl : (s.data.toList.map fun b : UInt8 => Value.int .u8 b.toNat).length = s.size := by simp
              rw [hrow]
              simp only [bytesRow, Array.toList_append, Array.toList_map]
              rw [← hl, List.take_left']
              rfl
            have hlen : (s.data.toList.map fun b : UInt8 => AV.int .u8 b.toNat).length = s.size := by simp
            obtain ⟨hp, hi⟩ := Post.new (n := row.size) (hI.drew) hnew (.cells row e (row.size, row.size + 1)) ⟨row.toList, (row.size, row.size + 1), rfl, by simp, by rw [hlen]; omega, by
              rw [hlen, htake]
              exact Rels.of_forall _ _ _ (fun b _ => by simp [Rel])⟩ (by
                show ∀ i, _ → _
                intro i hi hh
                simp only at hh
                omega)
            refine ⟨_, _, hrun, _, ?_, (Post.drew hI).trans hp⟩
            simp only [Rel]
            exact ⟨_, _, _, hi, hge, by simp, by rw [hsz]; omega, rfl⟩
          · cases h
        · cases h
      · cases h
    · cases h
  · rename_i l off len es cap
    split at h
    · rename_i h1 h2 h3
      obtain ⟨e, hs, he⟩ := isByteSlice_spec h1
      split at h
      · rename_i cs hr
        split at h
        · rename_i bs hb
          simp only [Option.some.injEq, Prod.mk.injEq] at h
          obtain ⟨rfl, rfl⟩ := h
          simp only [Rel] at hx
          obtain ⟨b, n, c, hi, hc1, hc2, hc3, rfl⟩ := hx
          obtain ⟨b2, k, vs, us, t, fr, hi2, hb2, hk, hvs, hvl, hcl, hrel, hbound, hrun⟩ := readX_spec hI hr
          rw [hi] at hi2
          cases hi2
          have hvv := bytesX_rel hb hrel
          have hbl : bs.length = len := by rw [← hvl, hvv]; simp
          have hconv := run_convert_bytes_back (P := P) w src dst e ⟨b, off, none⟩ c bs hs he (isStr_spec h2) (fun j hj => by
            rw [addr_add, cell?_at hb2]
            have : vs[j]? = some (.int .u8 (bs[j].toNat : Int)) := by rw [hvv]; simp [hj]
            rw [hvs, List.getElem?_take_of_lt (by omega), List.getElem?_drop] at this
            exact this)
          rw [hbl] at hconv
          exact ⟨_, _, hconv, Out.same hI (by simp only [Rel])⟩
        · cases h
      · cases h
    · cases h
  · cases h

theorem quickConv_spec {src dst : TypeId} {d : TypeDesc} (hs : P.underlying src = some d) {k : IntKind} {n : Int} (h : quickConv P dst (.int k n) = some a) (ι : Ren) (w : World) : ∃ u, (convert src dst (.int k n)).run P w = .ok u w ∧ Rel ι a u := by
  unfold quickConv at h
  have hs' := run_underlying hs w
  split at h
  · rename_i q m k' he hd
    cases he
    refine ⟨.int k' (k'.wrap (m : Int)), ?_, fitX_spec h ι⟩
    simp [convert, hs', run_underlying hd w, Conv.intToInt]
  · rename_i q m he hd
    cases he
    split at h
    · rename_i hlt
      simp only [Option.some.injEq] at h
      subst h
      have hlt' := bltT.1 hlt
      refine ⟨.int .u64 (IntKind.u64.wrap (Int.negSucc m)), ?_, ?_⟩
      · simp [convert, hs', run_underlying hd w, Conv.intToInt]
      · rw [IntKind.wrap_u64, Int.negSucc_eq]
        simp only [Rel, Value.int.injEq, true_and]
        show _ = ((18446744073709551615 - m : Nat) : Int)
        omega
    · cases h
  · cases h

theorem op_convert {src dst : TypeId} {x : Operand} {o : Oper} (ho : o.op = .convert src dst x) (h : opConvert P o ρ src dst x st = some (.val a st')) (hρ : ∀ x ∈ o.op.operands, ∀ a, ρ x = some a → Rel ι a (ev x)) (hI : Inv P ι st w) :
    OpRes P rec (Out P ι st w a st') ((execOp ev o).run P w) := by
  rw [ho] at hρ
  have hx : ∀ a, ρ x = some a → Rel ι a (ev x) := hρ x (by simp [Op.operands])
  unfold opConvert at h
  split at h
  · rename_i k n d hv hs
    split at h
    · rename_i v hq
      simp only [Option.some.injEq, ORes.val.injEq] at h
      obtain ⟨rfl, rfl⟩ := h
      obtain ⟨u, hrun, hrel⟩ := quickConv_spec hs hq ι w
      have hx' := hx _ hv
      simp only [Rel] at hx'
      exact OpRes.value (v := u) (w := w) (by simp [execOp, ho, hx', hrun]) (Out.same hI hrel)
    · exact op_pure1 h hx (fun f g e => by simp only [execOp, ho, e]) hI
  · rename_i s d hv hs
    obtain ⟨u, w', hrun, hout⟩ := convX_spec hI (pairX_inv h) (hx _ hv)
    exact OpRes.value (by simp [execOp, ho, hrun]) hout
  · rename_i l off len es c d hv hs
    obtain ⟨u, w', hrun, hout⟩ := convX_spec hI (pairX_inv h) (hx _ hv)
    exact OpRes.value (by simp [execOp, ho, hrun]) hout
  · cases h

/-! ### append, copy -/
theorem rowX_spec (hI : Inv P ι st w) {es n : Nat} {x : AV} {cs : List AV} (h : rowX st es n x = some cs) {v : Value} (hx : Rel ι x v) :
    ∃ vs, (Builtin.firstCells es n v).run P w = .ok ⟨vs⟩ w ∧ Rels ι cs vs ∧ vs.length = n * es := by
  unfold rowX at h
  split at h
  · rename_i l off len s cap
    split at h
    · rename_i h1 h2
      simp only [Rel] at hx
      obtain ⟨b, k, c, hi, _, _, _, rfl⟩ := hx
      obtain ⟨b2, k2, vs, us, t, fr, hi2, hb2, hk, hvs, hvl, hcl, hrel, hbound, hrun⟩ := readX_spec hI h
      rw [hi] at hi2
      cases hi2
      exact ⟨vs, hrun, hrel, hvl⟩
    · cases h
  · split at h
    · rename_i h1
      simp only [Option.some.injEq] at h
      simp only [Rel] at hx
      have := beqT.1 h1
      subst h hx this
      exact ⟨[], rfl, Rels.nil_iff.2 rfl, by simp⟩
    · cases h
  · split at h
    · rename_i h1
      simp only [Option.some.injEq] at h
      simp only [Rel] at hx
      obtain ⟨p, c, rfl⟩ := hx
      have := beqT.1 h1
      subst h this
      exact ⟨[], by simp [Builtin.firstCells, loadCells, loadCellsFrom], Rels.nil_iff.2 rfl, by simp⟩
    · cases h
  · rename_i s
    split at h
    · rename_i h1
      have := beqT.1 h1
      subst this
      simp only [Rel] at hx
      subst hx
      obtain ⟨e1, e2⟩ := takeX_eq _ _ _ h
      subst e1
      refine ⟨(s.data.toList.take n).map fun b => .int .u8 b.toNat, ?_, ?_, ?_⟩
      · simp only [Builtin.firstCells, Sem.run_pure, Result.ok.injEq, and_true]
        apply Array.toList_inj.1
        simp [ByteArray.data_extract]
      · rw [← List.map_take]
        exact Rels.of_forall _ _ _ (fun b _ => by simp [Rel])
      · simp only [List.length_map] at e2
        simp only [List.length_map, List.length_take]
        omega
    · cases h
  · cases h
end Go.Proofs.Bc
