/- What is known of calls: sha.load, sha.rotr, bytes' own comparison: for the executor. -/
import Derived.Test.YtglbbdailankpaaGreatDoorXW
import Derived.Test.YtglbbdailankpaaGreatDoorC02
import Derived.Test.YtglbbdailankpaaGreatDoorC08
namespace Go.Proofs.Bc
open Go Go.RowKit
variable {P : Program}

/-- More blocks, and the old ones as they were. -/
structure Grown (w w' : World) : Prop where
  os : w'.os = w.os
  tape : w'.tape = w.tape
  output : w'.output = w.output
  size : w.heap.size ≤ w'.heap.size
  same : ∀ b, b < w.heap.size → w'.heap[b]? = w.heap[b]?
theorem Grown.refl (w : World) : Grown w w := ⟨rfl, rfl, rfl, Nat.le_refl _, fun _ _ => rfl⟩
theorem Grown.trans {w w1 w2 : World} (h : Grown w w1) (k : Grown w1 w2) : Grown w w2 :=
  ⟨k.os.trans h.os, k.tape.trans h.tape, k.output.trans h.output, Nat.le_trans h.size k.size, fun b hb => (k.same b (Nat.lt_of_lt_of_le hb h.size)).trans (h.same b hb)⟩

theorem Post.grown {ι : Ren} {st : St} {w w' : World} (hI : Inv P ι st w) (h : Grown w w') : Post P ι st w ι st w' :=
  ⟨Sub.refl ι, fun _ _ => rfl, Nat.le_refl _, rfl, fun _ _ => rfl, ⟨⟨fun l o hl => by
    obtain ⟨b, n, ob, h1, h2, h3, h4⟩ := hI.heap.at_ l o hl
    exact ⟨b, n, ob, h1, (h.same b (Array.getElem?_eq_some_iff.1 h2).1).trans h2, h3, h4⟩, hI.heap.inj⟩, hI.lt, hI.lo, hI.glo, hI.glob, hI.fresh⟩,
    ⟨h.os, h.tape, h.output, h.size, fun b hb _ => h.same b hb⟩, fun l _ n hl hg hi => .inr ⟨l, n, hl, hg, hi⟩⟩

/-- The whole heap as a snapshot. -/
def snapOf (w : World) : Snap := fun b => w.heap[b]?
theorem S_start (w : World) : S w (snapOf w) w [] := ⟨rfl, rfl, rfl, fun _ _ h => h, fun _ h => (by cases h), fun _ h => (by cases h), List.nodup_nil⟩
theorem S.to_grown {w w' : World} (h : S w (snapOf w) w' []) : Grown w w' := by
  have same : ∀ b, b < w.heap.size → w'.heap[b]? = w.heap[b]? := fun b hb => by
    have e : w.heap[b]? = some w.heap[b] := Array.getElem?_eq_getElem hb
    rw [e]
    exact h.snap b _ e
  refine ⟨h.os, h.tape, h.output, ?_, same⟩
  rcases Nat.lt_or_ge w'.heap.size w.heap.size with hlt | hge
  · have := same w'.heap.size hlt
    rw [Array.getElem?_eq_none (Nat.le_refl _), Array.getElem?_eq_getElem hlt] at this
    cases this
  · exact hge
theorem Grown.S {w w' : World} {H : Snap} {w0 : World} {L : List Chunk} (h : S w0 H w L) (hg : Grown w w') : S w0 H w' L :=
  ⟨hg.os.trans h.os, hg.tape.trans h.tape, hg.output.trans h.output, fun b o hH => (hg.same b (h.lt hH)).trans (h.snap b o hH),
    fun c hc => by obtain ⟨o, ho, hk⟩ := h.own c hc; exact ⟨o, (hg.same c.b (h.own_lt hc)).trans ho, hk⟩, h.free, h.nodup⟩

/-- Integers of one kind out of cells. -/
def icellsX : List AV → Option (List Int)
  | [] => some []
  | .int .i64 n :: r => match icellsX r with
    | some ks => some (n :: ks)
    | none => none
  | _ => none
theorem icellsX_rel {ι : Ren} : ∀ {cs : List AV} {ks : List Int}, icellsX cs = some ks → ∀ {vs : List Value}, Rels ι cs vs → vs = ks.map fun n => .int .i64 n
  | [], ks, h, vs, hv => by
    simp only [icellsX, Option.some.injEq] at h
    subst h
    rw [Rels.nil_iff] at hv
    subst hv; rfl
  | x :: cs, ks, h, vs, hv => by
    unfold icellsX at h
    split at h
    · rename_i heq; cases heq
    · rename_i n r heq
      cases heq
      split at h
      · rename_i ks' hks
        simp only [Option.some.injEq] at h
        subst h
        rw [Rels.cons_iff] at hv
        obtain ⟨v, us, h1, h2, rfl⟩ := hv
        simp only [Rel] at h1
        rw [h1, icellsX_rel hks h2]; rfl
      · cases h
    · cases h

/-- What a slice's cells are, in the world. -/
theorem read_cells {ι : Ren} {st : St} {w : World} (hI : Inv P ι st w) {l off n : Nat} {cs : List AV} (h : readX st l off n = some cs) :
    ∃ b k vs, ι l = some (b, k) ∧ Rels ι cs vs ∧ cs.length = n ∧ ∀ (j : Nat) u, vs[j]? = some u → w.cell? ⟨b, off + j, none⟩ = some u := by
  obtain ⟨b, k, vs, us, t, fr, h1, h2, _, h4, _, h6, h7, _, _⟩ := readX_spec hI h
  refine ⟨b, k, vs, h1, h7, h6, fun j u hj => ?_⟩
  rw [h4, List.getElem?_take] at hj
  split at hj
  · rw [List.getElem?_drop] at hj
    simp [World.cell?, h2, hj]
  · cases hj

/-- A list of cells that reads in the whole heap. -/
theorem rd_of {α : Type} {w : World} {enc : α → List Value} (g : α → Value) (henc : ∀ x, enc x = [g x]) {xs : List α} {b off cap : Nat} (hc : xs.length ≤ cap) (hm : cap ≤ maxLen) (h : ∀ (j : Nat) u, (xs.map g)[j]? = some u → w.cell? ⟨b, off + j, none⟩ = some u) :
    Rd (snapOf w) 1 enc (.slice (some ⟨b, off, none⟩) xs.length cap) xs := by
  refine ⟨some ⟨b, off, none⟩, cap, rfl, hc, hm, fun _ => ⟨b, off, rfl, fun i x hx j u hu => ?_⟩⟩
  rw [henc] at hu
  cases j with
  | succ j => simp at hu
  | zero =>
    simp only [List.getElem?_cons_zero, Option.some.injEq] at hu
    subst hu
    have := h i (g x) (by rw [List.getElem?_map, hx]; rfl)
    unfold World.cell? at this
    unfold Snap.cell cellOf snapOf
    cases hb : w.heap[b]? with
    | none => rw [hb] at this; cases this
    | some o =>
      rw [hb] at this
      cases o <;> simp_all

def ksOK : List Int → Bool
  | [] => true
  | .ofNat n :: r => match Nat.ble 1 n, Nat.ble n 31 with
    | true, true => ksOK r
    | _, _ => false
  | _ => false
theorem ksOK_spec : ∀ (ks : List Int), ksOK ks = true → ∀ k, k ∈ ks → 1 ≤ k ∧ k ≤ 31
  | [], _, k, hk => by cases hk
  | .ofNat n :: r, h, k, hk => by
    unfold ksOK at h
    split at h
    · rename_i h1 h2
      rcases List.mem_cons.1 hk with rfl | hk
      · have h1 := bleT.1 h1
        have h2 := bleT.1 h2
        constructor
        · show (1 : Int) ≤ (n : Int); omega
        · show (n : Int) ≤ (31 : Int); omega
      · exact ksOK_spec r h k hk
    · cases h
  | .negSucc n :: r, h, k, hk => by simp [ksOK] at h

def rotK (st : St) : List AV → Option AV
  | [.int .u32 x, .slice l off len es (some cap)] => match Nat.beq es 1, Nat.ble cap 4096, readX st l off len with
    | true, true, some cs => (match icellsX cs with
      | some ks => (match ksOK ks with
        | true => forceV (.int .u32 (rotrW x ks)) some
        | false => none)
      | none => none)
    | _, _, _ => none
  | _ => none
def loadK (st : St) : List AV → Option AV
  | [.slice l off len es (some cap)] => match Nat.beq es 1, Nat.ble cap 4096, readX st l off len with
    | true, true, some cs => (match bytesX cs with
      | some bs => forceV (.int .u32 (loadW bs)) some
      | none => none)
    | _, _, _ => none
  | _ => none
def cmpK (st : St) : List AV → Option AV
  | [.slice l off len _ _, .slice m off2 len2 _ _] => match readX st l off len, readX st m off2 len2 with
    | some cs, some ds => (match bytesX cs, bytesX ds with
      | some x, some y => forceV (.int .i64 (Lib.compareBytes x y)) some
      | _, _ => none)
    | _, _ => none
  | _ => none
def K0 : Known := fun g args st => match Nat.beq g 96 with
  | true => rotK st args
  | false => match Nat.beq g 95 with
    | true => loadK st args
    | false => match Nat.beq g 61 with
      | true => cmpK st args
      | false => none

theorem maxLen_ge : 4096 ≤ maxLen := by decide

theorem known_of_calls {ι : Ren} {st : St} {w : World} (hI : Inv P ι st w) {g : FuncId} (hb : hasBody P g = true) {args : Array Value} {v : AV} {u : Value} (hr : Rel ι v u) (h : Calls P g args w fun e w' => e = .returned u ∧ S w (snapOf w) w' []) :
    OpRes P false (Out P ι st w v st) ((callFunc g args).run P w) := by
  rw [run_callFunc_body hb]
  refine ⟨rfl, fun n => (callsIn_wide.2 h).mono ?_⟩
  rintro e w' ⟨rfl, hS⟩
  exact ⟨u, rfl, ι, hr, Post.grown hI hS.to_grown⟩

theorem rotK_ok {g : FuncId} {ι : Ren} {st : St} {w : World} (hb : hasBody P g = true) (hany : ∀ x v ks, Rd (snapOf w) 1 icell v ks → ks.length ≤ 1000000 → (∀ k ∈ ks, 1 ≤ k ∧ k ≤ 31) → Calls P g #[.int .u32 x, v] w fun e w' => e = .returned (.int .u32 (rotrW x ks)) ∧ S w (snapOf w) w' [])
    (hI : Inv P ι st w) {args : List AV} {vs : List Value} {v : AV} (h : rotK st args = some v) (hv : Rels ι args vs) : OpRes P false (Out P ι st w v st) ((callFunc g ⟨vs⟩).run P w) := by
  unfold rotK at h
  split at h
  · rename_i x l off len es cap
    split at h
    · rename_i cs hes hcap hread
      split at h
      · rename_i ks hks
        split at h
        · rename_i hok
          rw [forceV_eq] at h
          simp only [Option.some.injEq] at h
          subst h
          rw [Rels.cons_iff] at hv
          obtain ⟨vx, us, hx, hv, rfl⟩ := hv
          rw [Rels.cons_iff] at hv
          obtain ⟨vl, us2, hl, hv, rfl⟩ := hv
          rw [Rels.nil_iff] at hv
          subst hv
          simp only [Rel] at hx hl
          subst hx
          obtain ⟨b, n, c, hi, hlc, hck, _, rfl⟩ := hl
          obtain ⟨b', k, vs, hi', hrel, hlen, hcell⟩ := read_cells hI hread
          rw [hi] at hi'
          cases hi'
          have hvs := icellsX_rel hks hrel
          subst hvs
          have hkl : ks.length = len := by rw [← hlen, ← Rels.length hrel]; simp
          subst hkl
          have hck := hck cap rfl
          subst hck
          have hrd := rd_of (enc := icell) (fun n => .int .i64 n) (fun _ => rfl) hlc (Nat.le_trans (bleT.1 hcap) maxLen_ge) hcell
          exact known_of_calls hI hb (by simp only [Rel]) (hany x _ ks hrd (by have := bleT.1 hcap; omega) (ksOK_spec ks hok))
        · cases h
      · cases h
    · cases h
  · cases h

theorem loadK_ok {g : FuncId} {ι : Ren} {st : St} {w : World} (hb : hasBody P g = true) (hany : ∀ v bs, Rd (snapOf w) 1 bcell v bs → bs.length ≤ 1000000 → Calls P g #[v] w fun e w' => e = .returned (.int .u32 (loadW bs)) ∧ S w (snapOf w) w' [])
    (hI : Inv P ι st w) {args : List AV} {vs : List Value} {v : AV} (h : loadK st args = some v) (hv : Rels ι args vs) : OpRes P false (Out P ι st w v st) ((callFunc g ⟨vs⟩).run P w) := by
  unfold loadK at h
  split at h
  · rename_i l off len es cap
    split at h
    · rename_i cs hes hcap hread
      split at h
      · rename_i bs hbs
        rw [forceV_eq] at h
        simp only [Option.some.injEq] at h
        subst h
        rw [Rels.cons_iff] at hv
        obtain ⟨vl, us2, hl, hv, rfl⟩ := hv
        rw [Rels.nil_iff] at hv
        subst hv
        simp only [Rel] at hl
        obtain ⟨b, n, c, hi, hlc, hck, _, rfl⟩ := hl
        obtain ⟨b', k, vs, hi', hrel, hlen, hcell⟩ := read_cells hI hread
        rw [hi] at hi'
        cases hi'
        have hvs := bytesX_rel hbs hrel
        subst hvs
        have hkl : bs.length = len := by rw [← hlen, ← Rels.length hrel]; simp
        subst hkl
        have hck := hck cap rfl
        subst hck
        have hrd := rd_of (enc := bcell) (fun b => .int .u8 b.toNat) (fun _ => rfl) hlc (Nat.le_trans (bleT.1 hcap) maxLen_ge) hcell
        exact known_of_calls hI hb (by simp only [Rel]) (hany _ bs hrd (by have := bleT.1 hcap; omega))
      · cases h
    · cases h
  · cases h

theorem cmpK_ok {g : FuncId} {ι : Ren} {st : St} {w : World} (hext : ∀ args : Array Value, (callFunc g args).run P w = ((Extern.BytealgCompare.compare args).run P w).andThen fun v w' => .ok (.value v) w')
    (hI : Inv P ι st w) {args : List AV} {vs : List Value} {v : AV} (h : cmpK st args = some v) (hv : Rels ι args vs) : OpRes P false (Out P ι st w v st) ((callFunc g ⟨vs⟩).run P w) := by
  unfold cmpK at h
  split at h
  · rename_i l off len es cap m off2 len2 es2 cap2
    split at h
    · rename_i cs ds hr1 hr2
      split at h
      · rename_i x y hx hy
        rw [forceV_eq] at h
        simp only [Option.some.injEq] at h
        subst h
        rw [Rels.cons_iff] at hv
        obtain ⟨v1, us, h1, hv, rfl⟩ := hv
        rw [Rels.cons_iff] at hv
        obtain ⟨v2, us2, h2, hv, rfl⟩ := hv
        rw [Rels.nil_iff] at hv
        subst hv
        simp only [Rel] at h1 h2
        obtain ⟨b1, n1, c1, hi1, _, _, _, rfl⟩ := h1
        obtain ⟨b2, n2, c2, hi2, _, _, _, rfl⟩ := h2
        obtain ⟨b1', k1, vs1, hj1, hrel1, hlen1, hcell1⟩ := read_cells hI hr1
        obtain ⟨b2', k2, vs2, hj2, hrel2, hlen2, hcell2⟩ := read_cells hI hr2
        rw [hi1] at hj1
        cases hj1
        rw [hi2] at hj2
        cases hj2
        have e1 := bytesX_rel hx hrel1
        have e2 := bytesX_rel hy hrel2
        subst e1 e2
        have hl1 : x.length = len := by rw [← hlen1, ← Rels.length hrel1]; simp
        have hl2 : y.length = len2 := by rw [← hlen2, ← Rels.length hrel2]; simp
        subst hl1 hl2
        have hx' := run_bytesOf (P := P) w b1 off c1 x (fun j u hj => hcell1 j _ (by rw [List.getElem?_map, hj]; rfl))
        have hy' := run_bytesOf (P := P) w b2 off2 c2 y (fun j u hj => hcell2 j _ (by rw [List.getElem?_map, hj]; rfl))
        rw [hext]
        change OpRes _ _ _ ((Sem.run P (do pure (goInt (Extern.BytealgCompare.cmp (← Extern.Bytes.bytesOf (.slice (some ⟨b1, off, none⟩) x.length c1)) (← Extern.Bytes.bytesOf (.slice (some ⟨b2, off2, none⟩) y.length c2))))) w).andThen _)
        simp only [Sem.run_bind, hx', hy', Result.andThen, Sem.run_pure, Lib.cmp_eq]
        exact ⟨ι, by simp only [Rel, goInt], Post.refl hI⟩
      · cases h
    · cases h
  · cases h

theorem K0_ok_of (hr : ∀ w, hasBody P 96 = true ∧ ∀ x v ks, Rd (snapOf w) 1 icell v ks → ks.length ≤ 1000000 → (∀ k ∈ ks, 1 ≤ k ∧ k ≤ 31) → Calls P 96 #[.int .u32 x, v] w fun e w' => e = .returned (.int .u32 (rotrW x ks)) ∧ S w (snapOf w) w' [])
    (hl : ∀ w, hasBody P 95 = true ∧ ∀ v bs, Rd (snapOf w) 1 bcell v bs → bs.length ≤ 1000000 → Calls P 95 #[v] w fun e w' => e = .returned (.int .u32 (loadW bs)) ∧ S w (snapOf w) w' [])
    (hc : ∀ w (args : Array Value), (callFunc 61 args).run P w = ((Extern.BytealgCompare.compare args).run P w).andThen fun v w' => .ok (.value v) w') : KnownOK P K0 := by
  intro g args st v h ι w vs hv hI
  unfold K0 at h
  split at h
  · rename_i hg
    have := beqT.1 hg
    subst this
    exact rotK_ok (hr w).1 (hr w).2 hI h hv
  · split at h
    · rename_i hg
      have := beqT.1 hg
      subst this
      exact loadK_ok (hl w).1 (hl w).2 hI h hv
    · split at h
      · rename_i hg
        have := beqT.1 hg
        subst this
        exact cmpK_ok (hc w) hI h hv
      · cases h

theorem rotr_body : hasBody Tryz.prog 96 = true := by kernel_rfl
theorem load_body : hasBody Tryz.prog 95 = true := by kernel_rfl
theorem cmp_ext (w : World) (args : Array Value) : (callFunc 61 args).run Tryz.prog w = ((Extern.BytealgCompare.compare args).run Tryz.prog w).andThen fun v w' => .ok (.value v) w' :=
  run_callFunc_extern Tryz.func61 (by kernel_rfl) (by kernel_rfl) (by kernel_rfl) (by kernel_rfl) args w
theorem rotr_known (w : World) : hasBody Tryz.prog 96 = true ∧ ∀ x v ks, Rd (snapOf w) 1 icell v ks → ks.length ≤ 1000000 → (∀ k ∈ ks, 1 ≤ k ∧ k ≤ 31) → Calls Tryz.prog 96 #[.int .u32 x, v] w fun e w' => e = .returned (.int .u32 (rotrW x ks)) ∧ S w (snapOf w) w' [] :=
  And.intro rotr_body fun x v ks h1 h2 h3 => rotr_any (S_start w) x v ks h1 h2 h3
theorem load_known (w : World) : hasBody Tryz.prog 95 = true ∧ ∀ v bs, Rd (snapOf w) 1 bcell v bs → bs.length ≤ 1000000 → Calls Tryz.prog 95 #[v] w fun e w' => e = .returned (.int .u32 (loadW bs)) ∧ S w (snapOf w) w' [] :=
  And.intro load_body fun v bs h1 h2 => load_any (S_start w) v bs h1 h2
set_option maxRecDepth 100000 in
theorem K0_ok : KnownOK Tryz.prog K0 := K0_ok_of (P := Tryz.prog) rotr_known load_known cmp_ext
#print axioms K0_ok
end Go.Proofs.Bc
