/- The executor's append and copy against the model's. -/
import Derived.Test.YtglbbdailankpaaGreatDoorXM
namespace Go.Proofs.Bc
open Go
variable {P : Program} {ι : Ren} {st st' : St} {w : World} {a : AV} {rec : Bool} {ev : Operand → Value} {ρ : Operand → Option AV}

set_option maxHeartbeats 4000000 in
/-- append where it must grow. -/
theorem run_append_grown {t u ty e : TypeId} {d : TypeDesc} {i : TypeInfo} {z : Value} (ht : P.underlying t = some (.slice e)) (hu : P.underlying u = some d) (hd : isIntD d = false) (hi : P.info? e = some i) (hz : i.zero = some z)
    {base : Option Addr} {len cap n : Nat} {x : Value} (hn : (Builtin.lenOf x).run P w = .ok n w) {old new : Array Value} (hold : (Builtin.firstCells i.size len (.slice base len cap)).run P w.drew = .ok old w.drew)
    (hnew : (Builtin.firstCells i.size n x).run P w.drew = .ok new w.drew) (hgrow : cap < len + n) (h63 : len + n ≤ 9000000000000000) (hb : (len + n) * i.bytes ≤ 140737488355328) :
    (Builtin.append_ #[t, u] ty #[.slice base len cap, x]).run P w = .ok (.slice (some ⟨w.heap.size, 0, none⟩) (len + n) (grownCap w (len + n) cap e))
      (w.drew.alloc (.cells (old ++ new ++ Builtin.zeroCells z.cells (grownCap w (len + n) cap e - (len + n))) e)) := by
  have hfit := growslice_fits (bytes := i.bytes) hgrow hb
  have hno1 : ¬ (len + n ≤ cap) := by omega
  have hno2 : ¬ ((9223372036854775807 : Int) < ((len : Int) + (n : Int))) := by omega
  have hno3 : ¬ (281474976710656 < Builtin.nextslicecap (len + n) cap * i.bytes) := by omega
  have hsz : ∀ w, (Go.sizeOf e).run P w = .ok i.size w := fun w => by simp [Go.sizeOf, typeInfo, hi]
  have hty : ∀ w, (typeInfo e).run P w = .ok i w := fun w => by simp [typeInfo, hi]
  have hzv : ∀ w, (zeroValue e).run P w = .ok z w := fun w => by simp [zeroValue, typeInfo, hi, hz]
  have hforced : (Question.appendCap (len + n) cap e).forced = false := rfl
  have hcut : (Question.appendCap (len + n) cap e).cut (w.tape w.drawn (Question.appendCap (len + n) cap e)) = grownCap w (len + n) cap e := rfl
  cases d <;> first
    | (cases hd; done)
    | (simp [Builtin.append_, run_underlying ht, run_underlying hu, hsz, hn, hty, hno1, hno2, hno3, hzv, hold, hnew, newRow, hforced, hcut])

set_option maxHeartbeats 4000000 in
/-- append within the capacity. -/
theorem run_append_inside {t u ty e : TypeId} {d : TypeDesc} {i : TypeInfo} (ht : P.underlying t = some (.slice e)) (hu : P.underlying u = some d) (hd : isIntD d = false) (hi : P.info? e = some i)
    {ad : Addr} {len cap n : Nat} {x : Value} (hn : (Builtin.lenOf x).run P w = .ok n w) {new : Array Value}
    (hnew : (Builtin.firstCells i.size n x).run P w = .ok new w) (hroom : len + n ≤ cap) {w' : World} (hst : (storeCells (ad.add (len * i.size)) new.toList).run P w = .ok () w') :
    (Builtin.append_ #[t, u] ty #[.slice (some ad) len cap, x]).run P w = .ok (.slice (some ad) (len + n) cap) w' := by
  have hsz : ∀ w, (Go.sizeOf e).run P w = .ok i.size w := fun w => by simp [Go.sizeOf, typeInfo, hi]
  cases d <;> first
    | (cases hd; done)
    | (simp [Builtin.append_, run_underlying ht, run_underlying hu, hsz, hn, hroom, hnew, hst])

theorem run_append_nothing {t u ty e : TypeId} {d : TypeDesc} {i : TypeInfo} (ht : P.underlying t = some (.slice e)) (hu : P.underlying u = some d) (hd : isIntD d = false) (hi : P.info? e = some i)
    {x : Value} (hn : (Builtin.lenOf x).run P w = .ok 0 w) (hnew : (Builtin.firstCells i.size 0 x).run P w = .ok #[] w) :
    (Builtin.append_ #[t, u] ty #[.slice none 0 0, x]).run P w = .ok (.slice none 0 0) w := by
  have hsz : ∀ w, (Go.sizeOf e).run P w = .ok i.size w := fun w => by simp [Go.sizeOf, typeInfo, hi]
  cases d <;> first
    | (cases hd; done)
    | (simp [Builtin.append_, run_underlying ht, run_underlying hu, hsz, hn, hnew])

/-- What a grown row leaves. -/
theorem growX_new {e es len n c : Nat} {old new : List AV} (hI : Inv P ι st w) (h : growX e es len n old new st = some (a, st')) {ov nv zs : List Value} (ho : Rels ι old ov) (hn : Rels ι new nv)
    (hol : ov.length = len * es) (hnl : nv.length = n * es) (hc : len + n ≤ c) (hz : zs.length = (c - (len + n)) * es) :
    Out P ι st w a st' (.slice (some ⟨w.heap.size, 0, none⟩) (len + n) c) (w.alloc (.cells ⟨ov ++ nv ++ zs⟩ e)) := by
  unfold growX at h
  split at h
  · rename_i cs happ
    split at h
    · rename_i l st2 hnew
      simp only [Option.some.injEq, Prod.mk.injEq] at h
      obtain ⟨rfl, rfl⟩ := h
      have e1 := appX_eq _ _ _ happ
      subst e1
      have hlen : (ov ++ nv ++ zs).length = c * es := by
        simp only [List.length_append, hol, hnl, hz]
        rw [← Nat.add_mul, ← Nat.add_mul]
        congr 1; omega
      have hr := ho.append hn
      obtain ⟨hp, hi⟩ := Post.new (n := (ov ++ nv ++ zs).length) hI hnew (.cells ⟨ov ++ nv ++ zs⟩ e) ⟨_, (0, 0), rfl, rfl, by rw [← hr.length]; simp, by rw [← hr.length, List.take_left']; exact hr; rfl⟩ (by
        show ∀ i, _ → _
        intro i _ hh
        simp only at hh
        omega)
      refine ⟨_, ?_, hp⟩
      simp only [Rel]
      exact ⟨_, _, c, hi, hc, by simp, by rw [hlen]; omega, rfl⟩
    · cases h
  · cases h

theorem appendOnX_spec {t u ty e : TypeId} {d : TypeDesc} {i : TypeInfo} {z : Value} (ht : P.underlying t = some (.slice e)) (hu : P.underlying u = some d) (hd : isIntD d = false) (hi : P.info? e = some i) (hz : i.zero = some z) (hzs : z.cells.size = i.size)
    (hby : i.bytes ≤ 10000) {n : Nat} (hns : n ≤ 1000000) {s x : AV} {sv xv : Value} (hs : Rel ι s sv) (hn : ∀ w, (Builtin.lenOf xv).run P w = .ok n w) {new : List AV} (hrow : rowX st i.size n x = some new) (hx : Rel ι x xv) (hall : new.all AV.isCell = true)
    (hI : Inv P ι st w) (h : appendOnX e i.size n s new st = some (a, st')) :
    ∃ v w', (Builtin.append_ #[t, u] ty #[sv, xv]).run P w = .ok v w' ∧ Out P ι st w a st' v w' := by
  obtain ⟨nv, hnrun, hnrel, hnl⟩ := rowX_spec hI hrow hx
  obtain ⟨nv2, hnrun2, hnrel2, hnl2⟩ := rowX_spec hI.drew hrow hx
  have hzl : ∀ k, (Builtin.zeroCells z.cells k).toList.length = k * i.size := fun k => by rw [Array.length_toList, size_zeroCells, hzs]
  have hbytes : ∀ len, len ≤ 1000000 → (len + n) * i.bytes ≤ 140737488355328 := fun len hl => by
    have : (len + n) * i.bytes ≤ 2000000 * 10000 := Nat.mul_le_mul (by omega) hby
    omega
  unfold appendOnX at h
  split at h
  · simp only [Rel] at hs
    subst hs
    split at h
    · simp only [Option.some.injEq, Prod.mk.injEq] at h
      obtain ⟨rfl, rfl⟩ := h
      have hnv : nv = [] := List.eq_nil_of_length_eq_zero (by simpa using hnl)
      subst hnv
      exact ⟨_, _, run_append_nothing ht hu hd hi (hn w) hnrun, Out.same hI (by simp [Rel])⟩
    · rename_i m
      have hcap := grownCap_ge w (0 + (m + 1)) 0 e
      have hrun := run_append_grown (P := P) (ty := ty) (w := w) ht hu hd hi hz (base := none) (len := 0) (cap := 0) (hn w) (old := #[]) rfl hnrun2 (by omega) (by omega) (hbytes 0 (by omega))
      refine ⟨_, _, hrun, ?_⟩
      have hout := growX_new (c := grownCap w (0 + (m + 1)) 0 e) (zs := (Builtin.zeroCells z.cells (grownCap w (0 + (m + 1)) 0 e - (0 + (m + 1)))).toList) hI.drew h (Rels.nil_iff.2 rfl) hnrel2 (by simp) hnl2 hcap (hzl _)
      obtain ⟨ι', hrel, hp⟩ := hout
      refine ⟨ι', hrel, ?_⟩
      have e1 : (⟨[] ++ nv2 ++ (Builtin.zeroCells z.cells (grownCap w (0 + (m + 1)) 0 e - (0 + (m + 1)))).toList⟩ : Array Value) = #[] ++ ⟨nv2⟩ ++ Builtin.zeroCells z.cells (grownCap w (0 + (m + 1)) 0 e - (0 + (m + 1))) := by
        apply Array.toList_inj.1; simp
      rw [e1] at hp
      exact (Post.drew hI).trans hp
  · rename_i l off len es' cap
    split at h
    · rename_i old hc hold
      rw [Bool.and_eq_true] at hc
      have hes : i.size = es' := beqT.1 hc.1
      have hlen : len ≤ 1000000 := bleT.1 hc.2
      have hs0 := hs
      simp only [Rel] at hs
      obtain ⟨b, k, c, hι, hc1, hc2, hc3, rfl⟩ := hs
      obtain ⟨ov, horun, horel, hol⟩ := rowX_spec hI hold hs0
      obtain ⟨ov2, horun2, horel2, hol2⟩ := rowX_spec hI.drew hold hs0
      have grown : ∀ (hlt : c < len + n) {st1 : St} (hI1 : Inv P ι st1 w) (hg : growX e i.size len n old new st1 = some (a, st')), ∃ v w', (Builtin.append_ #[t, u] ty #[.slice (some ⟨b, off, none⟩) len c, xv]).run P w = .ok v w' ∧ Out P ι st1 w a st' v w' := by
        intro hlt st1 hI1 hg
        have hcap := grownCap_ge w (len + n) c e
        have hrun := run_append_grown (P := P) (ty := ty) (w := w) ht hu hd hi hz (base := some ⟨b, off, none⟩) (len := len) (cap := c) (hn w) horun2 hnrun2 hlt (by omega) (hbytes len hlen)
        refine ⟨_, _, hrun, ?_⟩
        obtain ⟨ι', hrel, hp⟩ := growX_new (c := grownCap w (len + n) c e) (zs := (Builtin.zeroCells z.cells (grownCap w (len + n) c e - (len + n))).toList) hI1.drew hg horel2 hnrel2 hol2 hnl2 hcap (hzl _)
        refine ⟨ι', hrel, ?_⟩
        have e1 : (⟨ov2 ++ nv2 ++ (Builtin.zeroCells z.cells (grownCap w (len + n) c e - (len + n))).toList⟩ : Array Value) = ⟨ov2⟩ ++ ⟨nv2⟩ ++ Builtin.zeroCells z.cells (grownCap w (len + n) c e - (len + n)) := by
          apply Array.toList_inj.1; simp
        rw [e1] at hp
        exact (Post.drew hI1).trans hp
      split at h
      · rename_i htight
        refine grown ?_ hI h
        unfold tightX at htight
        split at htight
        · rename_i c0
          have := hc2 c0 rfl
          have := bltT.1 htight
          omega
        · cases htight
      · split at h
        · rename_i st1 hoff hturn
          rw [Bool.and_eq_true] at hoff
          have hoff0 : off = 0 := beqT.1 hoff.1
          subst hoff0
          have hpd := Post.drop hI hturn
          by_cases hroom : len + n ≤ c
          · -- the old block serves
            have hcells := hoff.2
            unfold cellsOfX at hcells
            split at hcells
            · rename_i cs0 t0 hl
              have ht0 : t0 = e := beqT.1 hcells
              subst ht0
              obtain ⟨b2, n2, ob, hi2, hb, ⟨cv, fr, rfl, hk, hle, hr⟩, hfz⟩ := hI.heap.at_ _ _ hl
              rw [hι] at hi2
              cases hi2
              have hlo := (turn_eq hturn).1
              have hfz' := hfz (Nat.le_trans hI.glo hlo)
              subst hes
              have hfit : len * i.size + nv.length ≤ cv.length := by
                rw [hnl, ← Nat.add_mul, hk]
                exact Nat.le_trans (Nat.mul_le_mul_right _ hroom) (by omega)
              obtain ⟨w', hst, hb', hon⟩ := run_storeCells_row (P := P) b (len * i.size) t0 fr nv 0 w cv hb (by right; omega) (by simpa [unfrozen] using hfz') (all_isCell hnrel hall)
              have hrun := run_append_inside (P := P) (ty := ty) ht hu hd hi (ad := ⟨b, 0, none⟩) (len := len) (cap := c) (hn w) hnrun hroom (by rw [addr_add, Nat.zero_add]; exact hst)
              refine ⟨_, _, hrun, ?_⟩
              unfold growX at h
              split at h
              · rename_i cs happ
                split at h
                · rename_i l' st2 hnew
                  simp only [Option.some.injEq, Prod.mk.injEq] at h
                  obtain ⟨rfl, rfl⟩ := h
                  have e1 := appX_eq _ _ _ happ
                  subst e1
                  have hov : ov = cv.take (len * i.size) := by
                    have hold' : readX st l 0 (len * i.size) = some old := by
                      have e1 : Nat.beq i.size i.size = true := beqT.2 rfl
                      have e2 : Nat.ble len len = true := bleT.2 (Nat.le_refl _)
                      simp only [rowX, e1, e2] at hold
                      exact hold
                    obtain ⟨b3, k3, vs3, us3, t3, fr3, hi3, hb3, _, hvs3, hvl3, _, hrel3, _, hrun3⟩ := readX_spec hI hold'
                    rw [hι] at hi3
                    cases hi3
                    rw [hb] at hb3
                    cases hb3
                    have : (loadCells ⟨b, 0, none⟩ (len * i.size)).run P w = .ok ⟨ov⟩ w := horun
                    rw [hrun3] at this
                    cases this
                    rw [hvs3]; simp
                  have hlay : lay (len * i.size) nv cv = ov ++ nv ++ cv.drop (len * i.size + nv.length) := by rw [hov]; rfl
                  have hcs : (old ++ new).length = (ov ++ nv).length := (horel.append hnrel).length.symm
                  obtain ⟨hp, hi'⟩ := Post.reuse (w' := w') hI hl hι hturn hnew _ hb' ⟨_, fr, rfl, by rw [Nat.add_zero, lay_length (.inr hfit)]; exact hk, by
                    rw [hcs, List.length_append, hol]; omega, by
                    rw [Nat.add_zero, hlay, hcs, List.take_left']
                    · exact horel.append hnrel
                    · rfl⟩ (by
                    show ∀ i, _ → _
                    simp only [Nat.add_zero, List.size_toArray]
                    rw [lay_length (.inr hfit)]
                    simpa [unfrozen] using hfz') hon
                  refine ⟨_, ?_, hp⟩
                  simp only [Rel]
                  exact ⟨b, k, c, hi', hroom, by simp, hc3, rfl⟩
                · cases h
              · cases h
            · cases hcells
          · obtain ⟨v, w', hrun, ι', hrel, hp⟩ := grown (by omega) hpd.inv h
            exact ⟨v, w', hrun, ι', hrel, hpd.trans hp⟩
        · cases h
    · cases h
  · cases h

theorem appendX_spec {t u ty : TypeId} {s x : AV} {sv xv : Value} (hI : Inv P ι st w) (h : appendX P t u s x st = some (a, st')) (hs : Rel ι s sv) (hx : Rel ι x xv) :
    ∃ v w', (Builtin.append_ #[t, u] ty #[sv, xv]).run P w = .ok v w' ∧ Out P ι st w a st' v w' := by
  unfold appendX at h
  split at h
  · rename_i e d ht hu
    split at h
    · rename_i i z n hd hi hz hlen
      split at h
      · rename_i new hb hrow
        split at h
        · rename_i hall
          rw [Bool.and_eq_true, Bool.and_eq_true] at hb
          obtain ⟨i', zv, hi', hzv, _, hzrel⟩ := run_zeroX hz ι w
          rw [hi] at hi'
          cases hi'
          refine appendOnX_spec ht hu hd hi hzv ?_ (bleT.1 hb.1.1) (bleT.1 hb.2) hs (fun w => lenX_run hlen hx w) hrow hx hall hI h
          rw [← Array.length_toList, hzrel.cells.length]
          exact beqT.1 hb.1.2
        · cases h
      · cases h
    · cases h
  · cases h

theorem copyX_spec {t u ty : TypeId} {d x : AV} {dv xv : Value} (hI : Inv P ι st w) (h : copyX P t d x st = some (a, st')) (hd : Rel ι d dv) (hx : Rel ι x xv) :
    ∃ v w', (Builtin.copy_ #[t, u] ty #[dv, xv]).run P w = .ok v w' ∧ Out P ι st w a st' v w' := by
  unfold copyX at h
  split at h
  · rename_i e ht
    split at h
    · rename_i es n m hs hn hm
      split at h
      · rename_i cs hrow
        unfold copyOnX at h
        split at h
        · rename_i l off len es' cap
          split at h
          · rename_i st2 hw
            simp only [Option.some.injEq, Prod.mk.injEq] at h
            obtain ⟨rfl, rfl⟩ := h
            simp only [lenX, Option.some.injEq] at hn
            subst hn
            simp only [Rel] at hd
            obtain ⟨b, k, c, hι, _, _, _, rfl⟩ := hd
            obtain ⟨nv, hnrun, hnrel, hnl⟩ := rowX_spec hI hrow hx
            obtain ⟨b2, k2, w', hi2, hst, hp⟩ := writeX_spec hI hw hnrel
            rw [hι] at hi2
            cases hi2
            refine ⟨.int .i64 ((Nat.min m len : Nat) : Int), w', ?_, ι, by simp only [Rel]; rfl, hp⟩
            simp [Builtin.copy_, run_underlying ht, lenX_run hm hx, run_sizeX hs, hnrun, hst, goInt]
          · cases h
        · cases h
      · cases h
    · cases h
  · cases h
end Go.Proofs.Bc
