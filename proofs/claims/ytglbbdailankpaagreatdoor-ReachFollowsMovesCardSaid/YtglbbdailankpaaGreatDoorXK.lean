/- The executor's operations against the model's, one by one: whole numbers, conversions. -/
import Derived.Test.YtglbbdailankpaaGreatDoorXJ
import Derived.Laws.Bits64
import Derived.Laws.BitsAllLaws
namespace Go.Proofs.Bc
open Go
variable {P : Program} {ι : Ren} {st st' : St} {w : World} {a : AV} {rec : Bool} {ev : Operand → Value} {ρ : Operand → Option AV}

theorem klim_le (k : IntKind) : klim k ≤ 2 ^ k.bits := by cases k <;> decide
theorem ofInt_nat {b m : Nat} (h : m < 2 ^ b) : (BitVec.ofInt b (m : Int)).toNat = m := by
  rw [BitVec.toNat_ofInt]
  have : (m : Int) % (2 ^ b : Nat) = m := Int.emod_eq_of_lt (by omega) (by exact_mod_cast h)
  rw [this]; rfl

theorem natBin_spec {op : BinOp} {k : IntKind} {m n : Nat} (h : natBin op k m n = some a) (ι : Ren) (t : TypeId) (w : World) : ∃ u, (binOp op t (.int k (m : Int)) (.int k (n : Int))).run P w = .ok u w ∧ Rel ι a u := by
  unfold natBin at h
  split at h
  · exact ⟨_, by rw [binOp_add]; rfl, by have := fitX_spec h ι; simpa using this⟩
  · split at h
    · rename_i hle
      have hle' : n ≤ m := bleT.1 hle
      refine ⟨.int k (k.wrap ((m : Int) - n)), by rw [binOp_sub]; rfl, ?_⟩
      have := fitX_spec h ι
      rw [show (((Nat.sub m n : Nat)) : Int) = (m : Int) - n by show ((m - n : Nat) : Int) = _; omega] at this
      exact this
    · cases h
  · simp only [Option.some.injEq] at h
    subst h
    refine ⟨_, by rw [binOp_lss]; rfl, ?_⟩
    simp only [Rel, Value.bool.injEq]
    rw [Bool.eq_iff_iff, bltT]; simp
  · simp only [Option.some.injEq] at h
    subst h
    refine ⟨_, by rw [binOp_leq]; rfl, ?_⟩
    simp only [Rel, Value.bool.injEq]
    rw [Bool.eq_iff_iff, bleT]; simp
  · simp only [Option.some.injEq] at h
    subst h
    refine ⟨_, by rw [binOp_gtr]; rfl, ?_⟩
    simp only [Rel, Value.bool.injEq]
    rw [Bool.eq_iff_iff, bltT]; simp
  · simp only [Option.some.injEq] at h
    subst h
    refine ⟨_, by rw [binOp_geq]; rfl, ?_⟩
    simp only [Rel, Value.bool.injEq]
    rw [Bool.eq_iff_iff, bleT]; simp
  · simp only [Option.some.injEq] at h
    subst h
    refine ⟨_, by rw [binOp_eql]; rfl, ?_⟩
    simp only [Rel, Value.bool.injEq]
    rw [Bool.eq_iff_iff, beqT]; simp; omega
  · split at h
    · rename_i hm hn
      have hm' := Nat.lt_of_lt_of_le (bltT.1 hm) (klim_le k)
      have hn' := Nat.lt_of_lt_of_le (bltT.1 hn) (klim_le k)
      refine ⟨_, by rw [binOp_and]; rfl, ?_⟩
      rw [BitVec.toNat_and, ofInt_nat hm', ofInt_nat hn']
      exact fitX_spec h ι
    · cases h
  · split at h
    · rename_i hm hn
      have hm' := Nat.lt_of_lt_of_le (bltT.1 hm) (klim_le k)
      have hn' := Nat.lt_of_lt_of_le (bltT.1 hn) (klim_le k)
      refine ⟨_, by rw [binOp_or]; rfl, ?_⟩
      rw [BitVec.toNat_or, ofInt_nat hm', ofInt_nat hn']
      exact fitX_spec h ι
    · cases h
  · split at h
    · rename_i hm hn
      have hm' := Nat.lt_of_lt_of_le (bltT.1 hm) (klim_le k)
      have hn' := Nat.lt_of_lt_of_le (bltT.1 hn) (klim_le k)
      refine ⟨_, by rw [binOp_xor]; rfl, ?_⟩
      rw [BitVec.toNat_xor, ofInt_nat hm', ofInt_nat hn']
      exact fitX_spec h ι
    · cases h
  · cases h

theorem natShift_spec {op : BinOp} {k j : IntKind} {m n : Nat} (h : natShift op k m n = some a) (ι : Ren) (t : TypeId) (w : World) : ∃ u, (binOp op t (.int k (m : Int)) (.int j (n : Int))).run P w = .ok u w ∧ Rel ι a u := by
  unfold natShift at h
  split at h
  · split at h
    · rename_i hn hm
      simp only [Option.some.injEq] at h
      subst h
      have hm' := Nat.lt_of_lt_of_le (bltT.1 hm) (klim_le k)
      refine ⟨.int k ((m : Int).fdiv (2 ^ (min n k.bits) : Int)), ?_, ?_⟩
      · rw [binOp_shr]
        have : ¬ ((n : Int) < 0) := by omega
        simp [Op.shift, this]
      · simp only [Rel, Value.int.injEq, true_and]
        have e1 : (2 ^ (min n k.bits) : Int) = ((2 ^ (min n k.bits) : Nat) : Int) := by push_cast; rfl
        rw [e1, Int.fdiv_eq_ediv_of_nonneg _ (Int.natCast_nonneg _)]
        show (((m : Nat) : Int) / ((2 ^ (min n k.bits) : Nat) : Int)) = ((m / 2 ^ n : Nat) : Int)
        rw [← Int.natCast_ediv]
        congr 1
        by_cases hle : n ≤ k.bits
        · rw [Nat.min_eq_left hle]
        · rw [Nat.min_eq_right (by omega), Nat.div_eq_of_lt hm', Nat.div_eq_of_lt (Nat.lt_of_lt_of_le hm' (Nat.pow_le_pow_right (by omega) (by omega)))]
    · cases h
  · have key : ∀ (hle : n ≤ k.bits) (hf : fitX k (Nat.mul m (Nat.pow 2 n)) = some a), ∃ u, (binOp .shl t (.int k (m : Int)) (.int j (n : Int))).run P w = .ok u w ∧ Rel ι a u := by
      intro hle hf
      refine ⟨.int k (k.wrap ((m : Int) * 2 ^ n)), ?_, ?_⟩
      · rw [binOp_shl]
        have : ¬ ((n : Int) < 0) := by omega
        simp [Op.shift, this, Nat.min_eq_left hle]
      · have := fitX_spec hf ι
        have e : ((Nat.mul m (Nat.pow 2 n) : Nat) : Int) = (m : Int) * 2 ^ n := by
          show ((m * 2 ^ n : Nat) : Int) = _
          push_cast; rfl
        rw [e] at this
        exact this
    split at h
    · rename_i hn hs
      exact key (by have := bltT.1 hn; cases k <;> simp only [IntKind.bits] <;> omega) h
    · split at h
      · rename_i hn hk
        refine key ?_ h
        have := bltT.1 hn
        have hk' := beqT.1 hk
        cases k <;> simp [kix] at hk'
        simp only [IntKind.bits]; omega
      · cases h
  · cases h

theorem kix_inj {k j : IntKind} (h : Nat.beq (kix k) (kix j) = true) : k = j := by
  have := beqT.1 h
  cases k <;> cases j <;> simp_all [kix]

theorem quickBin_spec {op : BinOp} {x y : AV} (h : quickBin op x y = some a) {u v : Value} (hx : Rel ι x u) (hy : Rel ι y v) (t : TypeId) (w : World) : ∃ r, (binOp op t u v).run P w = .ok r w ∧ Rel ι a r ∧ ∃ k n, u = .int k n := by
  unfold quickBin at h
  split at h
  · rename_i k m j n
    simp only [Rel] at hx hy
    subst hx hy
    split at h
    · obtain ⟨r, h1, h2⟩ := natShift_spec (P := P) (j := j) h ι t w
      exact ⟨r, h1, h2, _, _, rfl⟩
    · split at h
      · rename_i hk
        have := kix_inj hk
        subst this
        obtain ⟨r, h1, h2⟩ := natBin_spec (P := P) h ι t w
        exact ⟨r, h1, h2, _, _, rfl⟩
      · cases h
  · cases h

theorem run_eqSlice {t e : TypeId} (hu : P.underlying t = some (.slice e)) (p q : Option Addr) (n c m d : Nat) (w : World) (h : p = none ∨ q = none) :
    (binOp .eql t (.slice p n c) (.slice q m d)).run P w = .ok (.bool (p.isNone && q.isNone)) w := by
  have e1 : binOp .eql t (.slice p n c) (.slice q m d) = (do pure (.bool (← Op.equal t (.slice p n c) (.slice q m d)))) := rfl
  have hu' := run_underlying hu w
  have e2 : (Op.equal t (.slice p n c) (.slice q m d)).run P w = .ok (p.isNone && q.isNone) w := by
    show (Op.equalIn (9999 + 1) t (.slice p n c) (.slice q m d)).run P w = _
    rw [Op.equalIn]
    simp only [Sem.run_bind, hu', Result.andThen_ok]
    cases p with
    | none => simp
    | some p =>
      cases q with
      | none => simp
      | some q => rcases h with h | h <;> cases h
  rw [e1]
  simp only [Sem.run_bind, e2, Result.andThen_ok, Sem.run_pure]

theorem eqSlice_spec {ox oy : Operand} {x y : AV} {r : Bool} (h : eqSlice x y = some r) {u v : Value} (hx : Rel ι x u) (hy : Rel ι y v) {t : TypeId} (ht : isSliceT P t = true) (w : World) : (do eqGuard .eql t ox oy u v; binOp .eql t u v : Sem Value).run P w = .ok (.bool r) w := by
  have hsl : ∃ e, P.underlying t = some (.slice e) := by
    unfold isSliceT at ht
    split at ht
    · rename_i e hu; exact ⟨e, hu⟩
    · cases ht
  obtain ⟨e, hu⟩ := hsl
  have hu' := run_underlying hu
  unfold eqSlice at h
  split at h
  all_goals first
    | (cases h; done)
    | (simp only [Option.some.injEq] at h
       subst h
       simp only [Rel] at hx hy
       first
        | (obtain ⟨_, _, _, _, _, _, _, rfl⟩ := hx; subst hy)
        | (obtain ⟨_, _, rfl⟩ := hx; subst hy)
        | (obtain ⟨_, _, _, _, _, _, _, rfl⟩ := hy; subst hx)
        | (obtain ⟨_, _, rfl⟩ := hy; subst hx)
       rw [eqGuard_at_slice]
       simp only [Sem.run_bind, Sem.run_pure, Result.andThen_ok]
       exact run_eqSlice hu _ _ _ _ _ _ w (by first | exact .inl rfl | exact .inr rfl))

theorem op_bin {op : BinOp} {t yt : TypeId} {x y : Operand} {o : Oper} (ho : o.op = .binOp op t x y yt) (h : opBin P o ρ op t x y st = some (.val a st')) (hρ : ∀ x ∈ o.op.operands, ∀ a, ρ x = some a → Rel ι a (ev x)) (hI : Inv P ι st w) :
    OpRes P rec (Out P ι st w a st') ((execOp ev o).run P w) := by
  have hev : ∀ f g : Operand → Value, f x = g x → f y = g y → execOp f o = execOp g o := fun f g h1 h2 => by simp only [execOp, ho, h1, h2]
  rw [ho] at hρ
  have hx : ∀ a, ρ x = some a → Rel ι a (ev x) := hρ x (by simp [Op.operands])
  have hy : ∀ a, ρ y = some a → Rel ι a (ev y) := hρ y (by simp [Op.operands])
  unfold opBin at h
  split at h
  · rename_i p q hp hq
    split at h
    · rename_i v hv
      simp only [Option.some.injEq, ORes.val.injEq] at h
      obtain ⟨rfl, rfl⟩ := h
      obtain ⟨r, hrun, hrel, k, n, hu⟩ := quickBin_spec (P := P) hv (hx _ hp) (hy _ hq) t w
      refine OpRes.value (v := r) (w := w) ?_ (Out.same hI hrel)
      have hg : eqGuard op t x y (ev x) (ev y) = pure () := by rw [hu]; apply eqGuard_at_int
      simp [execOp, ho, hg, hrun]
    · rename_i hqb
      clear hqb
      unfold slowBin at h
      have hpure : ∀ {st' : St}, (match hasVal ρ x, hasVal ρ y with | true, true => valX (purely P o ρ) st | _, _ => none) = some (.val a st') → OpRes P rec (Out P ι st w a st') ((execOp ev o).run P w) := fun hh =>
        op_pure2 (x := x) (y := y) (by unfold opPure2; exact hh) hx hy hev hI
      split at h
      · rename_i ht
        split at h
        · rename_i r hr
          simp only [Option.some.injEq, ORes.val.injEq] at h
          obtain ⟨rfl, rfl⟩ := h
          refine OpRes.value (v := .bool r) (w := w) ?_ (Out.same hI (by simp [Rel]))
          have := eqSlice_spec (P := P) (ox := x) (oy := y) hr (hx _ hp) (hy _ hq) ht w
          simp only [execOp, ho, Sem.run_bind] at this ⊢
          rw [this]; rfl
        · exact hpure h
      · exact hpure h
  · cases h

theorem op_un {op : UnOp} {t : TypeId} {x : Operand} {o : Oper} (ho : o.op = .unOp op t x) (h : opUn P o ρ op x st = some (.val a st')) (hρ : ∀ x ∈ o.op.operands, ∀ a, ρ x = some a → Rel ι a (ev x)) (hI : Inv P ι st w) :
    OpRes P rec (Out P ι st w a st') ((execOp ev o).run P w) := by
  have hev : ∀ f g : Operand → Value, f x = g x → execOp f o = execOp g o := fun f g h1 => by simp only [execOp, ho, h1]
  rw [ho] at hρ
  have hx : ∀ a, ρ x = some a → Rel ι a (ev x) := hρ x (by simp [Op.operands])
  unfold opUn at h
  split at h
  · rename_i p hp
    split at h
    · rename_i v hv
      simp only [Option.some.injEq, ORes.val.injEq] at h
      obtain ⟨rfl, rfl⟩ := h
      have hx' := hx _ hp
      unfold quickUn at hv
      split at hv
      · rename_i n
        split at hv
        · rename_i hlt
          have hlt' := bltT.1 hlt
          simp only [Option.some.injEq] at hv
          subst hv
          simp only [Rel] at hx'
          refine OpRes.value (v := .int .i64 (Int.negSucc n)) (w := w) ?_ (Out.same hI (by simp [Rel]))
          have hw : IntKind.i64.wrap (-((n : Int) + 1)) = Int.negSucc n := by
            rw [IntKind.wrap_i64, Int.negSucc_eq]; omega
          simp [execOp, ho, hx', Op.unary, Op.intArith, hw]
        · cases hv
      · rename_i n
        split at hv
        · rename_i hlt
          have hlt' := bltT.1 hlt
          simp only [Option.some.injEq] at hv
          subst hv
          simp only [Rel] at hx'
          refine OpRes.value (v := .int .u32 ((4294967295 - n : Nat) : Int)) (w := w) ?_ (Out.same hI (by simp only [Rel]; rfl))
          have hb : ((BitVec.ofInt 32 4294967295) ^^^ (BitVec.ofInt 32 (n : Int))).toNat = 4294967295 - n := by
            have e1 : (BitVec.ofInt 32 4294967295) = BitVec.allOnes 32 := by decide
            rw [e1, BitVec.allOnes_xor, BitVec.toNat_not, ofInt_nat (by omega)]
          have hw : IntKind.u32.wrap ((4294967295 - n : Nat) : Int) = ((4294967295 - n : Nat) : Int) := wrap_fit (k := .u32) (by show 4294967295 - n < 4294967296; omega)
          have hb' : Op.intBits .xor .u32 4294967295 (n : Int) = pure (.int .u32 ((4294967295 - n : Nat) : Int)) := by
            show (pure (.int .u32 (IntKind.u32.wrap (((BitVec.ofInt 32 4294967295) ^^^ (BitVec.ofInt 32 (n : Int))).toNat : Int))) : Sem Value) = _
            rw [hb, hw]
          have hmax : IntKind.u32.max = 4294967295 := by decide
          simp only [execOp, ho, hx', Op.unary, IntKind.signed, Bool.false_eq_true, if_false, hmax]
          rw [show Int.ofNat n = (n : Int) from rfl, hb']
          rfl
        · cases hv
      · simp only [Option.some.injEq] at hv
        subst hv
        simp only [Rel] at hx'
        exact OpRes.value (v := .bool false) (w := w) (by simp [execOp, ho, hx', Op.unary]) (Out.same hI (by simp [Rel]))
      · simp only [Option.some.injEq] at hv
        subst hv
        simp only [Rel] at hx'
        exact OpRes.value (v := .bool true) (w := w) (by simp [execOp, ho, hx', Op.unary]) (Out.same hI (by simp [Rel]))
      · cases hv
    · exact op_pure1 (x := x) (by unfold opPure1; exact h) hx hev hI
  · cases h
end Go.Proofs.Bc
