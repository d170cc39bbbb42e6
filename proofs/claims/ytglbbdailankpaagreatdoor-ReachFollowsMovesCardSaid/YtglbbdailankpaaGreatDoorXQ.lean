/- Regions that draw their order: what the head's run gives (plain). -/
import Derived.Test.YtglbbdailankpaaGreatDoorXP
import Derived.OrdersIn
namespace Go.Proofs.Bc
open Go
variable {P : Program}

/-! ### Who waits for whom -/
def bitOf (ms : List Nat) (i j : Nat) : Bool := ((nthX i ms).getD 0).testBit j

theorem foldl_mask (acc : List Nat) (j : Nat) : ∀ (l : List Edge) (s : Nat),
    (l.foldl (maskStep acc) s).testBit j = true → s.testBit j = true ∨ ∃ e, e ∈ l ∧ Region.binds .any e = true ∧ (j = e.on ∨ bitOf acc e.on j = true)
  | [], s, h => .inl h
  | e :: l, s, h => by
    rw [List.foldl_cons] at h
    rcases foldl_mask acc j l _ h with h | ⟨e', he, hb, hj⟩
    · unfold maskStep at h
      cases hb : Region.binds .any e with
      | false => rw [hb] at h; exact .inl h
      | true =>
        rw [hb] at h
        simp only [Nat.testBit_or, Bool.or_eq_true, Nat.testBit_two_pow, decide_eq_true_eq] at h
        rcases h with (h | h) | h
        · exact .inl h
        · exact .inr ⟨e, by simp, hb, .inl h.symm⟩
        · exact .inr ⟨e, by simp, hb, .inr h⟩
    · exact .inr ⟨e', by simp [he], hb, hj⟩

theorem nthX_append_left {α : Type} {xs ys : List α} {i : Nat} (h : i < xs.length) : nthX i (xs ++ ys) = nthX i xs := by
  rw [nthX_get, nthX_get, List.getElem?_append_left h]

theorem masksX_spec : ∀ (l : List Oper) (acc : List Nat), (masksX l acc).length = acc.length + l.length ∧ (∀ i, i < acc.length → nthX i (masksX l acc) = nthX i acc) ∧
    ∀ i o, l[i]? = some o → ∀ j, bitOf (masksX l acc) (acc.length + i) j = true → ∃ e, e ∈ o.after.toList ∧ Region.binds .any e = true ∧ (j = e.on ∨ (e.on < acc.length + i ∧ bitOf (masksX l acc) e.on j = true))
  | [], acc => ⟨by simp [masksX], fun _ _ => rfl, fun i o h => by simp at h⟩
  | o :: l, acc => by
    rw [masksX]
    obtain ⟨m, hm⟩ : ∃ m, m = maskOf o acc := ⟨_, rfl⟩
    rw [← hm]
    obtain ⟨h1, h2, h3⟩ := masksX_spec l (acc ++ [m])
    have hl : (acc ++ [m]).length = acc.length + 1 := by simp
    refine ⟨by rw [h1, hl, List.length_cons]; omega, fun i hi => ?_, fun i o' ho j hj => ?_⟩
    · rw [h2 i (by rw [hl]; omega), nthX_append_left hi]
    · cases i with
      | zero =>
        simp only [List.getElem?_cons_zero, Option.some.injEq] at ho
        subst ho
        have e1 : nthX acc.length (masksX l (acc ++ [m])) = some m := by
          rw [h2 _ (by rw [hl]; omega), nthX_get]; simp
        unfold bitOf at hj
        rw [Nat.add_zero, e1, Option.getD_some, hm, maskOf] at hj
        rcases foldl_mask acc j _ _ hj with h | ⟨e, he, hb, hh⟩
        · simp at h
        · refine ⟨e, he, hb, ?_⟩
          rcases hh with h | h
          · exact .inl h
          · right
            have hlt : e.on < acc.length := by
              rcases Nat.lt_or_ge e.on acc.length with hl | hl
              · exact hl
              · unfold bitOf at h
                rw [nthX_get, List.getElem?_eq_none hl] at h
                simp at h
            refine ⟨by omega, ?_⟩
            unfold bitOf at h ⊢
            rw [h2 _ (by rw [hl]; omega), nthX_append_left hlt]
            exact h
      | succ i =>
        simp only [List.getElem?_cons_succ] at ho
        have := h3 i o' ho j (by rw [hl]; rw [show acc.length + 1 + i = acc.length + (i + 1) by omega]; exact hj)
        obtain ⟨e, he, hb, hh⟩ := this
        refine ⟨e, he, hb, hh.imp id (fun x => ⟨by rw [hl] at x; omega, x.2⟩)⟩

theorem fullX_spec (ms : List Nat) : ∀ (n k : Nat), fullX ms n = k → k ≤ n ∧ ∀ i, k ≤ i → i < n → ∀ j, j < i → bitOf ms i j = true
  | 0, k, h => by simp only [fullX] at h; subst h; exact ⟨Nat.le_refl _, fun i _ h => absurd h (Nat.not_lt_zero _)⟩
  | n + 1, k, h => by
    rw [fullX] at h
    split at h
    · rename_i hb
      obtain ⟨h1, h2⟩ := fullX_spec ms n k h
      refine ⟨by omega, fun i hk hi j hj => ?_⟩
      by_cases e : i = n
      · subst e
        have hb' : (nthX i ms).getD 0 + 1 = 2 ^ i := beqT.1 hb
        have hpos : 0 < 2 ^ i := Nat.two_pow_pos i
        have e1 : (nthX i ms).getD 0 = 2 ^ i - 1 := by omega
        unfold bitOf
        rw [e1, Nat.testBit_two_pow_sub_one]
        simpa using hj
      · exact h2 i hk (by omega) j hj
    · subst h
      exact ⟨Nat.le_refl _, fun i h1 h2 => absurd h2 (by omega)⟩

/-! ### What is laid -/
def findL : List (Nat × AObj) → Nat → Option AObj
  | [], _ => none
  | (k, o) :: r, l => match findL r l with
    | some x => some x
    | none => if l = k then some o else none
theorem putsX_get : ∀ (ns : List (Nat × AObj)) (h h' : Tr AObj), putsX ns h = some h' → ∀ l, h'.get l = match findL ns l with
    | some x => some x
    | none => h.get l
  | [], h, h', e, l => by simp only [putsX, Option.some.injEq] at e; subst e; rfl
  | (k, o) :: r, h, h', e, l => by
    rw [putsX] at e
    split at e
    · rename_i h1 hp
      rw [putsX_get r h1 h' e l, findL]
      cases hf : findL r l with
      | some x => rfl
      | none =>
        simp only
        rw [Tr.get_put _ _ _ _ _ hp]
        by_cases hl : l = k <;> simp [hl]
    · cases e
theorem findL_laid (h : Tr AObj) : ∀ (n c l : Nat), findL (laidX h c n) l = if c ≤ l ∧ l < c + n then h.get l else none
  | 0, c, l => by simp only [laidX, findL]; rw [if_neg (by omega)]
  | n + 1, c, l => by
    rw [laidX]
    split
    · rename_i o ho
      rw [findL, findL_laid h n (c + 1) l]
      by_cases h1 : c + 1 ≤ l ∧ l < c + 1 + n
      · have h2 : c ≤ l ∧ l < c + (n + 1) := by omega
        rw [if_pos h1, if_pos h2]
        cases e : h.get l with
        | some x => rfl
        | none => simp only; rw [if_neg (by omega)]
      · rw [if_neg h1]
        simp only
        by_cases h2 : l = c
        · have h3 : c ≤ l ∧ l < c + (n + 1) := by omega
          rw [if_pos h2, if_pos h3, h2, ho]
        · have h3 : ¬ (c ≤ l ∧ l < c + (n + 1)) := by omega
          rw [if_neg h2, if_neg h3]
    · rename_i ho
      rw [findL_laid h n (c + 1) l]
      by_cases h1 : c + 1 ≤ l ∧ l < c + 1 + n
      · have h2 : c ≤ l ∧ l < c + (n + 1) := by omega
        rw [if_pos h1, if_pos h2]
      · rw [if_neg h1]
        by_cases h2 : l = c
        · have h3 : c ≤ l ∧ l < c + (n + 1) := by omega
          rw [if_pos h3, h2, ho]
        · have h3 : ¬ (c ≤ l ∧ l < c + (n + 1)) := by omega
          rw [if_neg h3]
def look (m : Nat) : List Laid → Nat → Option AObj
  | [], _ => none
  | d :: ds, l => match look m ds l with
    | some x => some x
    | none => if m.testBit d.1 then findL d.2 l else none
theorem withX_get (m : Nat) : ∀ (as : List Laid) (h h' : Tr AObj), withX m as h = some h' → ∀ l, h'.get l = match look m as l with
    | some x => some x
    | none => h.get l
  | [], h, h', e, l => by simp only [withX, Option.some.injEq] at e; subst e; rfl
  | d :: ds, h, h', e, l => by
    rw [withX] at e
    split at e
    · rename_i hb
      split at e
      · rename_i h1 hp
        rw [withX_get m ds h1 h' e l, look]
        cases hf : look m ds l with
        | some x => rfl
        | none =>
          simp only
          rw [putsX_get _ _ _ hp l, if_pos hb]
      · cases e
    · rename_i hb
      rw [withX_get m ds h h' e l, look]
      cases hf : look m ds l with
      | some x => rfl
      | none => simp [hb]

/-! ### The head's run -/
structure HeadOne (P : Program) (T : Tools) (mode : Nat) (ops : List Oper) (core : Tr AObj) (o : Oper) (i m c : Nat) (as : List Laid) (fr fr' : Fr) (as' : List Laid) (c' : Nat) (v : AV) (N : Nat → Option AObj) : Prop where
  put : fr.put o.dst v = some fr'
  le : c ≤ c'
  look : ∀ m' l, look m' as' l = match look m' as l with
    | some x => some x
    | none => if m'.testBit i then N l else none
  out : ∀ l, N l ≠ none → c ≤ l ∧ l < c'
  keys : ∀ d, d ∈ as' → d ∈ as ∨ d.1 = i
  none_ : (∀ d, d ∈ as' → d.1 ≠ i) → ∀ l, N l = none
  run : (wantedX ops o fr = some false ∧ v = undefA ∧ c' = c ∧ ∀ l, N l = none) ∨ (wantedX ops o fr = some true ∧ ∃ h st', withX m as core = some h ∧ opX P T mode o (fr.eval P) { h := h, c := c, lo := c } = some (.val v st') ∧ st'.c = c' ∧
    ∀ l, N l = if c ≤ l ∧ l < c' then st'.h.get l else none)

theorem headResX_spec {i c c' : Nat} {as as' : List Laid} {fr fr' : Fr} {d : Option Tmp} {r : Option ORes} (h : headResX i c as fr d r = some (fr', as', c')) :
    ∃ v st', r = some (.val v st') ∧ fr.put d v = some fr' ∧ st'.c = c' ∧ c ≤ c' ∧ ((c' = c ∧ as' = as) ∨ (c < c' ∧ as' = moreLaid i (laidX st'.h c (c' - c)) as)) := by
  unfold headResX at h
  split at h
  · rename_i v st'
    split at h
    · rename_i fr2 st2 hp
      obtain ⟨hput, rfl⟩ := putV_inv hp
      split at h
      · rename_i _ hb
        simp only [Option.some.injEq, Prod.mk.injEq] at h
        obtain ⟨rfl, rfl, rfl⟩ := h
        have := beqT.1 hb
        exact ⟨v, st2, rfl, hput, this, Nat.le_refl _, .inl ⟨rfl, rfl⟩⟩
      · rename_i hb hlt
        simp only [Option.some.injEq, Prod.mk.injEq] at h
        obtain ⟨rfl, rfl, rfl⟩ := h
        have := bltT.1 hlt
        exact ⟨v, st2, rfl, hput, rfl, by omega, .inr ⟨this, rfl⟩⟩
      · cases h
    · cases h
  · cases h

theorem look_more (m' i : Nat) (ns : List (Nat × AObj)) (as : List Laid) (l : Nat) : look m' (moreLaid i ns as) l = match look m' as l with
    | some x => some x
    | none => if m'.testBit i then findL ns l else none := by
  unfold moreLaid
  split
  · cases hl : look m' as l <;> simp [findL]
  · rfl
theorem mem_more {i : Nat} {ns : List (Nat × AObj)} {as : List Laid} {d : Laid} (h : d ∈ moreLaid i ns as) : d ∈ as ∨ d.1 = i := by
  unfold moreLaid at h
  split at h
  · exact .inl h
  · rcases List.mem_cons.1 h with rfl | h
    · exact .inr rfl
    · exact .inl h
theorem more_none {i : Nat} {ns : List (Nat × AObj)} {as : List Laid} (h : ∀ d, d ∈ moreLaid i ns as → d.1 ≠ i) : ns = [] := by
  unfold moreLaid at h
  split at h
  · rfl
  · exact absurd rfl (h (i, ns) (by simp))

theorem headOneX_spec {T : Tools} {mode : Nat} {ops : List Oper} {core : Tr AObj} {o : Oper} {i m c c' : Nat} {as as' : List Laid} {fr fr' : Fr} (h : headOneX P T mode ops core o i m c as fr = some (fr', as', c')) :
    ∃ v N, HeadOne P T mode ops core o i m c as fr fr' as' c' v N := by
  unfold headOneX at h
  split at h
  · rename_i hw
    obtain ⟨v, st', hr, hput, hc, hle, hcase⟩ := headResX_spec h
    simp only [Option.some.injEq, ORes.val.injEq] at hr
    obtain ⟨rfl, rfl⟩ := hr
    simp only at hc
    subst hc
    have has : as' = as := by
      rcases hcase with ⟨_, h⟩ | ⟨h, _⟩
      · exact h
      · omega
    subst has
    refine ⟨undefA, fun _ => none, hput, hle, fun m' l => ?_, fun l h => absurd rfl h, fun d hd => .inl hd, fun _ _ => rfl, .inl ⟨hw, rfl, rfl, fun _ => rfl⟩⟩
    cases look m' as' l <;> simp
  · rename_i hw
    split at h
    · rename_i hh hwith
      obtain ⟨v, st', hr, hput, hc, hle, hcase⟩ := headResX_spec h
      refine ⟨v, fun l => if c ≤ l ∧ l < c' then st'.h.get l else none, hput, hle, fun m' l => ?_, fun l hl => ?_, fun d hd => ?_, fun hd l => ?_, .inr ⟨hw, hh, st', hwith, hr, hc, fun _ => rfl⟩⟩
      · rcases hcase with ⟨e, rfl⟩ | ⟨hlt, rfl⟩
        · have hno : ¬ (c ≤ l ∧ l < c') := by omega
          simp only [hno, if_false]
          cases look m' as' l <;> simp
        · rw [look_more, findL_laid]
          rw [show c + (c' - c) = c' by omega]
      · by_cases hh : c ≤ l ∧ l < c'
        · exact hh
        · simp [hh] at hl
      · rcases hcase with ⟨e, rfl⟩ | ⟨hlt, rfl⟩
        · exact .inl hd
        · exact mem_more hd
      · rcases hcase with ⟨e, rfl⟩ | ⟨hlt, rfl⟩
        · have hno : ¬ (c ≤ l ∧ l < c') := by omega
          simp only [hno, if_false]
        · have hns := more_none hd
          have := findL_laid st'.h (c' - c) c l
          rw [hns, show c + (c' - c) = c' by omega] at this
          simp only [findL] at this
          exact this.symm
    · cases h
  · cases h

theorem head_trace {T : Tools} {mode : Nat} {ops : List Oper} {core : Tr AObj} : ∀ (l : List Oper) (ms : List Nat) (i c : Nat) (as : List Laid) (fr fr' : Fr) (as' : List Laid) (c' : Nat), headX P T mode ops core l ms i c as fr = some (fr', as', c') →
    ∃ (cf : Nat → Nat) (asf : Nat → List Laid) (frf : Nat → Fr) (vf : Nat → AV) (Nf : Nat → Nat → Option AObj), cf i = c ∧ asf i = as ∧ frf i = fr ∧ cf (i + l.length) = c' ∧ asf (i + l.length) = as' ∧ frf (i + l.length) = fr' ∧
      ∀ j o, l[j]? = some o → ∃ m, ms[j]? = some m ∧ HeadOne P T mode ops core o (i + j) m (cf (i + j)) (asf (i + j)) (frf (i + j)) (frf (i + j + 1)) (asf (i + j + 1)) (cf (i + j + 1)) (vf (i + j)) (Nf (i + j))
  | [], ms, i, c, as, fr, fr', as', c', h => by
    simp only [headX, Option.some.injEq, Prod.mk.injEq] at h
    obtain ⟨rfl, rfl, rfl⟩ := h
    exact ⟨fun _ => c, fun _ => as, fun _ => fr, fun _ => undefA, fun _ _ => none, rfl, rfl, rfl, rfl, rfl, rfl, fun j o h => by simp at h⟩
  | o :: l, [], i, c, as, fr, fr', as', c', h => by simp [headX] at h
  | o :: l, m :: ms, i, c, as, fr, fr', as', c', h => by
    rw [headX] at h
    split at h
    · rename_i fr1 as1 c1 hone
      obtain ⟨v, N, hv⟩ := headOneX_spec hone
      obtain ⟨cf, asf, frf, vf, Nf, e1, e2, e3, e4, e5, e6, hall⟩ := head_trace l ms (i + 1) c1 as1 fr1 fr' as' c' h
      refine ⟨fun x => if x = i then c else cf x, fun x => if x = i then as else asf x, fun x => if x = i then fr else frf x, fun x => if x = i then v else vf x, fun x => if x = i then N else Nf x, by simp, by simp, by simp, ?_, ?_, ?_, fun j o' ho => ?_⟩
      · simp only [List.length_cons]; rw [if_neg (by omega), ← e4]; congr 1; omega
      · simp only [List.length_cons]; rw [if_neg (by omega), ← e5]; congr 1; omega
      · simp only [List.length_cons]; rw [if_neg (by omega), ← e6]; congr 1; omega
      · cases j with
        | zero =>
          simp only [List.getElem?_cons_zero, Option.some.injEq] at ho
          subst ho
          refine ⟨m, rfl, ?_⟩
          simp only [Nat.add_zero, if_true]
          rw [if_neg (by omega), if_neg (by omega), if_neg (by omega), e1, e2, e3]
          exact hv
        | succ j =>
          simp only [List.getElem?_cons_succ] at ho ⊢
          obtain ⟨m', hm', hh⟩ := hall j o' ho
          refine ⟨m', hm', ?_⟩
          rw [if_neg (by omega), if_neg (by omega), if_neg (by omega), if_neg (by omega), if_neg (by omega), if_neg (by omega), if_neg (by omega), if_neg (by omega)]
          rw [show i + (j + 1) = i + 1 + j by omega]
          exact hh
    · cases h
end Go.Proofs.Bc
