/- Sorting digests in place. -/
import Derived.Test.YtglbbdailankpaaGreatDoorC02
import Derived.Test.YtglbbdailankpaaGreatDoorB4
import Derived.Test.YtglbbdailankpaaGreatDoorSH
import Derived.Shelf.SlSortCmp.NoneTotal
namespace Go.Proofs.Bc
open Go Go.RowKit Go.Sort Go.Shelf

theorem cmpB_refl : ∀ a : List UInt8, Lib.compareBytes a a = 0
  | [] => rfl
  | a :: l => by simp [Lib.compareBytes, cmpB_refl l]
theorem cmpB_swap : ∀ a b : List UInt8, Lib.compareBytes b a = - Lib.compareBytes a b
  | [], [] => rfl
  | [], _ :: _ => rfl
  | _ :: _, [] => rfl
  | a :: l, b :: m => by
    have ih := cmpB_swap l m
    have hlt : ∀ x y : UInt8, x < y → ¬ y < x := fun x y h1 h2 => by rw [UInt8.lt_iff_toNat_lt] at h1 h2; omega
    unfold Lib.compareBytes
    by_cases h1 : a < b
    · rw [if_neg (hlt _ _ h1), if_pos h1, if_pos h1]; rfl
    · by_cases h2 : b < a
      · rw [if_pos h2, if_neg h1, if_pos h2]
      · rw [if_neg h2, if_neg h1, if_neg h1, if_neg h2]; exact ih
theorem cmpB_eq : ∀ a b : List UInt8, Lib.compareBytes a b = 0 → a = b
  | [], [], _ => rfl
  | [], _ :: _, h => by simp [Lib.compareBytes] at h
  | _ :: _, [], h => by simp [Lib.compareBytes] at h
  | a :: l, b :: m, h => by
    unfold Lib.compareBytes at h
    split at h
    · simp at h
    · rename_i h1
      split at h
      · simp at h
      · rename_i h2
        have : a = b := by rw [UInt8.lt_iff_toNat_lt] at h1 h2; exact UInt8.toNat_inj.1 (by omega)
        rw [this, cmpB_eq l m h]
theorem cmpB_trans : ∀ a b c : List UInt8, Lib.compareBytes a b < 0 → Lib.compareBytes b c < 0 → Lib.compareBytes a c < 0
  | [], [], c, h, _ => by simp [Lib.compareBytes] at h
  | [], _ :: _, [], _, h => by simp [Lib.compareBytes] at h
  | [], _ :: _, _ :: _, _, _ => by simp [Lib.compareBytes]
  | _ :: _, [], _, h, _ => by simp [Lib.compareBytes] at h
  | _ :: _, _ :: _, [], _, h => by simp [Lib.compareBytes] at h
  | a :: l, b :: m, c :: n, h1, h2 => by
    unfold Lib.compareBytes at *
    by_cases ab : a < b
    · by_cases bc : b < c
      · rw [if_pos (by rw [UInt8.lt_iff_toNat_lt] at *; omega)]; decide
      · rw [if_neg bc] at h2
        by_cases cb : c < b
        · rw [if_pos cb] at h2; simp at h2
        · rw [if_pos (by rw [UInt8.lt_iff_toNat_lt] at *; omega)]; decide
    · rw [if_neg ab] at h1
      by_cases ba : b < a
      · rw [if_pos ba] at h1; simp at h1
      · rw [if_neg ba] at h1
        have e : a = b := by rw [UInt8.lt_iff_toNat_lt] at ab ba; exact UInt8.toNat_inj.1 (by omega)
        subst e
        by_cases bc : a < c
        · rw [if_pos bc]; decide
        · rw [if_neg bc] at h2 ⊢
          by_cases cb : c < a
          · rw [if_pos cb] at h2; simp at h2
          · rw [if_neg cb] at h2 ⊢
            exact cmpB_trans l m n h1 h2
theorem cmpDig_swap (x y : Dig) : cmpDig y x = - cmpDig x y := cmpB_swap _ _
theorem cmpDig_eq {x y : Dig} (h : cmpDig x y = 0) : x = y := Subtype.ext (cmpB_eq _ _ h)
theorem cmpDig_trans {x y z : Dig} (h : cmpDig x y < 0) (k : cmpDig y z < 0) : cmpDig x z < 0 := cmpB_trans _ _ _ h k
theorem swoDig : SWO (ltOf cmpDig) where
  irrefl := fun x => by simp [ltOf, cmpDig, cmpB_refl]
  trans := fun x y z h k => by simp only [ltOf, decide_eq_true_eq] at *; exact cmpDig_trans h k
  ntrans := fun x y z h k => by
    simp only [ltOf, decide_eq_false_iff_not, Int.not_lt] at *
    rcases Int.lt_or_eq_of_le h with h | h
    · rcases Int.lt_or_eq_of_le k with k | k
      · have := cmpDig_trans (x := z) (y := y) (z := x) (by rw [cmpDig_swap]; omega) (by rw [cmpDig_swap]; omega)
        rw [cmpDig_swap] at this; omega
      · rw [← cmpDig_eq k.symm]; omega
    · rw [cmpDig_eq h.symm]; exact k
theorem totDig (x y : Dig) (h : ltOf cmpDig x y = false) (k : ltOf cmpDig y x = false) : x = y := by
  simp only [ltOf, decide_eq_false_iff_not, Int.not_lt] at *
  rw [cmpDig_swap] at k
  exact cmpDig_eq (by omega)

/-- The row of a growing slice, its elements written anew in place. -/
theorem S.rewritten {α : Type} [Inhabited α] {w0 w : World} {H : Snap} {L : List Chunk} {g cap e k : Nat} {enc : α → List Value} (hk : ∀ x, (enc x).length = k) {ds ds' : List α} (hlen : ds'.length = ds.length)
    (h : S w0 H w (growRow g cap e k (ds.map enc) :: L)) (n : Nat) (os : Array Obj) : S w0 H (sortWorldK enc k w g 0 n ds'.toArray os) (growRow g cap e k (ds'.map enc) :: L) := by
  have hother : ∀ b u, b ≠ g → w.heap[b]? = some u → (sortWorldK enc k w g 0 n ds'.toArray os).heap[b]? = some u := by
    intro b u hb hu
    have hlt := (Array.getElem?_eq_some_iff.1 hu).1
    show ((w.heap.modify g _) ++ os)[b]? = some u
    rw [Array.getElem?_append_left (by simpa using hlt), Array.getElem?_modify, if_neg (Ne.symm hb)]
    exact hu
  refine ⟨h.os, h.tape, h.output, fun b u hb => hother b u (fun e => ?_) (h.snap b u hb), ?_, fun d hd => ?_, h.nodup⟩
  · have := h.free _ List.mem_cons_self
    rw [show (growRow g cap _ k (ds.map enc)).b = g from rfl, ← e, hb] at this
    cases this
  · intro d hd
    rcases List.mem_cons.1 hd with rfl | hd
    · obtain ⟨o, ho, cur, rfl, h1, h2, h3, h4⟩ := h.own _ List.mem_cons_self
      have ho : w.heap[g]? = some (.cells cur e) := ho
      have hlt := (Array.getElem?_eq_some_iff.1 ho).1
      refine ⟨.cells (putCells id 0 (flatK enc k ds'.toArray) cur) e, ?_, _, rfl, by simpa [hlen] using h1, h2, by simp [putCells, h3], ?_⟩
      · show ((w.heap.modify g _) ++ os)[g]? = _
        rw [Array.getElem?_append_left (by simpa using hlt), Array.getElem?_modify, if_pos rfl, ho]
        rfl
      · have hfl := flatten_len k (ds'.map enc) (fun x hx => by obtain ⟨z, _, rfl⟩ := List.mem_map.1 hx; exact hk z)
        have hcl : ds.length * k ≤ cur.size := by
          rw [h3]; exact Nat.mul_le_mul_right _ (by simpa using h1)
        apply List.ext_getElem?
        intro t
        rw [List.getElem?_take]
        split
        · rename_i ht
          rw [List.length_map] at ht
          have hk0 : 0 < k := by
            rcases Nat.eq_zero_or_pos k with h0 | h0
            · subst h0; omega
            · exact h0
          have hq : t / k < ds'.length := Nat.div_lt_of_lt_mul (by rw [Nat.mul_comm]; exact ht)
          have hr : t % k < k := Nat.mod_lt _ hk0
          have hz : (ds'.map enc)[t / k]? = some (enc ds'[t / k]) := by rw [List.getElem?_map, List.getElem?_eq_getElem hq]; rfl
          have hu : (enc ds'[t / k])[t % k]? = some ((enc ds'[t / k])[t % k]'(by rw [hk]; exact hr)) := List.getElem?_eq_getElem _
          have hg := flatten_get k (ds'.map enc) (fun x hx => by obtain ⟨z, _, rfl⟩ := List.mem_map.1 hx; exact hk z) (t / k) (t % k) _ _ hz hu
          rw [show t / k * k + t % k = t from Nat.div_add_mod' t k] at hg
          rw [hg]
          have htc : t < cur.size := by rw [hlen] at ht; omega
          simp only [putCells, Array.toList_mapIdx, List.getElem?_mapIdx, Array.getElem?_toList, Array.getElem?_eq_getElem htc, Option.map_some, Nat.zero_le, true_and, Nat.zero_add, size_flatK, List.size_toArray, if_pos ht, Nat.sub_zero, id]
          rw [get_flatK _ _ _ _ (by simpa using ht)]
          simp only [List.getElem!_toArray]
          rw [getElem!_pos ds' _ hq, getElem!_pos _ _ (by rw [hk]; exact hr)]
        · rename_i ht
          rw [List.getElem?_eq_none]
          rw [hfl]; omega
    · obtain ⟨o, ho, hok⟩ := h.own d (List.mem_cons_of_mem _ hd)
      exact ⟨o, hother d.b o (S.ne_of h.nodup hd) ho, hok⟩
  · rcases List.mem_cons.1 hd with rfl | hd
    · exact h.free (growRow g cap e k (ds.map enc)) List.mem_cons_self
    · exact h.free d (List.mem_cons_of_mem _ hd)

instance : Inhabited Dig := ⟨⟨List.replicate 16 0, rfl⟩⟩
def sortDigs (ds : List Dig) : List Dig := ds.mergeSort fun x y => !(ltOf cmpDig) y x
theorem length_sortDigs (ds : List Dig) : (sortDigs ds).length = ds.length := List.length_mergeSort _

/-- slices.SortFunc(v, compare): the call's own slice, sorted in place. -/
theorem SortDig_any {w0 w : World} {H : Snap} {L : List Chunk} {v : Value} {ds : List Dig} (h : SO w0 H w 25 16 v (ds.map Dig.cells) L) (hn : ds.length < 4611686018427387904) :
    Calls Tryz.prog 14 #[v, .func (.func 15) #[] #[]] w fun e w' => e = .returned (.tuple #[]) ∧ SO w0 H w' 25 16 v ((sortDigs ds).map Dig.cells) L := by
  rcases h with ⟨rfl, h2, h3⟩ | ⟨g, cap, rfl, h⟩
  · have : ds = [] := by simpa using h2
    subst this
    exact (AnyF.slices_SortFunc_none Tryz.sortDig none 0 _ w).mono fun e w' ⟨he, hw⟩ => ⟨he, by subst hw; exact .inl ⟨rfl, by simp [sortDigs], h3⟩⟩
  · obtain ⟨o, ho, cur, rfl, h1, h2, h3, h4⟩ := h.own _ List.mem_cons_self
    have ho : w.heap[g]? = some (.cells cur 25) := ho
    rw [List.length_map] at h1 h4 ⊢
    have hH : HoldsK Dig.cells 16 w g 0 ds.toArray := by
      intro t ht
      rw [size_flatK, List.size_toArray] at ht
      rw [get_flatK _ _ _ _ (by simpa using ht)]
      have hq : t / 16 < ds.length := by omega
      have hz : (ds.map Dig.cells)[t / 16]? = some ds[t / 16].cells := by rw [List.getElem?_map, List.getElem?_eq_getElem hq]; rfl
      have hu : (ds[t / 16].cells)[t % 16]? = some ((ds[t / 16].cells)[t % 16]'(by rw [Dig.cells_length]; omega)) := List.getElem?_eq_getElem _
      have hg := flatten_get 16 (ds.map Dig.cells) (fun x hx => by obtain ⟨z, _, rfl⟩ := List.mem_map.1 hx; exact z.cells_length) (t / 16) (t % 16) _ _ hz hu
      rw [show t / 16 * 16 + t % 16 = t by omega, ← h4, List.getElem?_take_of_lt ht] at hg
      rw [Array.getElem?_toList] at hg
      constructor
      · simp only [World.cell?, ho, Nat.zero_add]
        simp only [List.getElem!_toArray]
        rw [getElem!_pos ds _ hq, getElem!_pos _ _ (by rw [Dig.cells_length]; omega)]
        simpa using hg
      · simp [World.frozen?, ho]
    have hsz : ds.toArray.size < 4611686018427387904 := by simpa using hn
    have hcmp : CmpLays Tryz.prog 15 #[] Dig.cells 16 cmpDig g 0 ds.toArray.size w := fun m os dk _ x y =>
      (compare_any _ x y).mono fun e w' ⟨he, q, hw⟩ => ⟨he, q, #[.cells x.cells.toArray 25, .cells y.cells.toArray 25], by
        rw [hw, alloc_eq_grow, alloc_eq_grow, grow_grow]; rfl⟩
    have := AnyQ.slices_SortFunc_total Tryz.sortDig 16 (fun w => by kernel_rfl) (fun w => by kernel_rfl) Dig.cells Dig.cells_length (fun x v hv => by
      obtain ⟨b, _, rfl⟩ := List.mem_map.1 hv; rfl) cmpDig swoDig 15 #[] g 0 cap ds.toArray w (enters_of Tryz.func15 (by kernel_rfl) rfl) hcmp hH (Array.getElem?_eq_some_iff.1 ho).1 hsz totDig
    simp only [List.size_toArray] at this
    refine Calls.mono this fun e w' hw => ?_
    obtain ⟨he, n, os, rfl⟩ := hw
    refine ⟨he, .inr ⟨g, cap, by rw [List.length_map, length_sortDigs], ?_⟩⟩
    have := h.rewritten Dig.cells_length (ds' := sortDigs ds) (length_sortDigs ds) n os
    simpa [sortDigs] using this
#print axioms SortDig_any
end Go.Proofs.Bc
