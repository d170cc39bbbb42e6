/- Writing into a growing slice of the call's own: an element, the spare. -/
import Derived.Test.YtglbbdailankpaaGreatDoorB5
import Derived.Deep.MidRow
namespace Go.Proofs.Bc
open Go Go.RowKit

def overA (F : Array Value) : Nat → List Value → Array Value
  | _, [] => F
  | s, v :: r => overA (F.setIfInBounds s v) (s + 1) r
@[simp] theorem overA_size : ∀ (vs : List Value) (s : Nat) (F : Array Value), (overA F s vs).size = F.size
  | [], _, _ => rfl
  | v :: r, s, F => by rw [overA, overA_size r]; simp
theorem overA_out : ∀ (vs : List Value) (s : Nat) (F : Array Value) (t : Nat), (t < s ∨ s + vs.length ≤ t) → (overA F s vs)[t]? = F[t]?
  | [], _, _, _, _ => rfl
  | v :: r, s, F, t, h => by
    rw [List.length_cons] at h
    rw [overA, overA_out r (s + 1) _ t (by omega), Array.getElem?_setIfInBounds, if_neg (by omega)]
theorem overA_in : ∀ (vs : List Value) (s : Nat) (F : Array Value) (j : Nat) (u : Value), vs[j]? = some u → s + j < F.size → (overA F s vs)[s + j]? = some u
  | [], _, _, _, _, h, _ => by simp at h
  | v :: r, s, F, 0, u, h, hl => by
    rw [overA, overA_out r (s + 1) _ (s + 0) (by omega), Array.getElem?_setIfInBounds, if_pos (by omega)]
    rw [if_pos (by omega)]; simpa using h
  | v :: r, s, F, j + 1, u, h, hl => by
    rw [overA, show s + (j + 1) = s + 1 + j by omega]
    exact overA_in r (s + 1) _ j u (by simpa using h) (by simp; omega)

theorem take_of_cells {k : Nat} {xs : List (List Value)} (hx : ∀ x, x ∈ xs → x.length = k) {cur : Array Value} (hsz : xs.length * k ≤ cur.size)
    (h : ∀ i x j u, xs[i]? = some x → x[j]? = some u → cur[i * k + j]? = some u) : cur.toList.take (xs.length * k) = xs.flatten := by
  have hfl := flatten_len k xs hx
  apply List.ext_getElem?
  intro t
  rw [List.getElem?_take]
  split
  · rename_i ht
    have hk0 : 0 < k := by
      rcases Nat.eq_zero_or_pos k with h0 | h0
      · subst h0; omega
      · exact h0
    have hq : t / k < xs.length := Nat.div_lt_of_lt_mul (by rw [Nat.mul_comm]; exact ht)
    have hr : t % k < k := Nat.mod_lt _ hk0
    have hz : xs[t / k]? = some xs[t / k] := List.getElem?_eq_getElem hq
    have hl : (xs[t / k]).length = k := hx _ (List.getElem_mem hq)
    have hu : (xs[t / k])[t % k]? = some ((xs[t / k])[t % k]'(by rw [hl]; exact hr)) := List.getElem?_eq_getElem _
    have hg := flatten_get k xs hx (t / k) (t % k) _ _ hz hu
    have hc := h (t / k) _ (t % k) _ hz hu
    rw [show t / k * k + t % k = t from Nat.div_add_mod' t k] at hg hc
    rw [hg, Array.getElem?_toList, hc]
  · rename_i ht
    rw [List.getElem?_eq_none]
    rw [hfl]; omega
theorem cells_of_take {k : Nat} {xs : List (List Value)} (hx : ∀ x, x ∈ xs → x.length = k) {cur : Array Value} (h : cur.toList.take (xs.length * k) = xs.flatten)
    (i : Nat) (x : List Value) (j : Nat) (u : Value) (hi : xs[i]? = some x) (hj : x[j]? = some u) : cur[i * k + j]? = some u := by
  have hg := flatten_get k xs hx i j x u hi hj
  have hi' : i < xs.length := (List.getElem?_eq_some_iff.1 hi).1
  have hj' : j < k := by have := (List.getElem?_eq_some_iff.1 hj).1; rwa [hx x (List.mem_of_getElem? hi)] at this
  rw [← h, List.getElem?_take_of_lt (by
    calc i * k + j < i * k + k := by omega
      _ = (i + 1) * k := (Nat.succ_mul i k).symm
      _ ≤ xs.length * k := Nat.mul_le_mul_right _ hi'), Array.getElem?_toList] at hg
  exact hg

variable {w0 w : World} {H : Snap} {L : List Chunk}
/-- What the first block is, named. -/
theorem S.known {c : Chunk} (h : S w0 H w (c :: L)) : ∃ o, c.ok o ∧ S w0 H w (⟨c.b, fun u => u = o⟩ :: L) := by
  obtain ⟨o, ho, hk⟩ := h.own c List.mem_cons_self
  exact ⟨o, hk, h.os, h.tape, h.output, h.snap, fun d hd => by
    rcases List.mem_cons.1 hd with rfl | hd
    · exact ⟨o, ho, rfl⟩
    · exact h.own d (List.mem_cons_of_mem _ hd), fun d hd => by
    rcases List.mem_cons.1 hd with rfl | hd
    · exact h.free c List.mem_cons_self
    · exact h.free d (List.mem_cons_of_mem _ hd), h.nodup⟩
theorem S.setCells {b : Nat} {t : TypeId} : ∀ (vs : List Value) (o : Nat) {w : World} {cs : Array Value}, S w0 H w (row b cs t :: L) → S w0 H (w.setCells b o vs) (row b (overA cs o vs) t :: L)
  | [], _, _, _, h => h
  | v :: r, o, _, _, h => S.setCells r (o + 1) (h.setCell v)
/-- An element of an own growing slice is written. -/
theorem S.setElem {g cap e k i : Nat} {xs : List (List Value)} {x : List Value} (hx : ∀ x, x ∈ xs → x.length = k) (hz : x.length = k) (hi : i < xs.length) (h : S w0 H w (growRow g cap e k xs :: L)) :
    S w0 H (w.setCells g (i * k) x) (growRow g cap e k (xs.set i x) :: L) := by
  obtain ⟨o, ⟨cur, rfl, h1, h2, h3, h4⟩, h⟩ := h.known
  have h : S w0 H w (row g cur e :: L) := h
  refine (h.setCells x (i * k)).imp fun o ho => ⟨_, ho, by simpa using h1, h2, by simpa using h3, ?_⟩
  have hmul : ∀ n, n < xs.length → n * k + k ≤ cur.size := fun n hn => by
    calc n * k + k = (n + 1) * k := (Nat.succ_mul n k).symm
      _ ≤ cap * k := Nat.mul_le_mul_right _ (by omega)
      _ = cur.size := h3.symm
  refine take_of_cells (fun y hy => by rcases List.mem_or_eq_of_mem_set hy with hy | rfl; exact hx y hy; exact hz) (by rw [overA_size, h3]; exact Nat.mul_le_mul_right _ (by simpa using h1)) fun n y j u hn hu => ?_
  rw [List.getElem?_set] at hn
  split at hn
  · rename_i hin
    subst hin
    cases hn
    exact overA_in _ _ _ _ _ hu (by have := hmul i hi; have := (List.getElem?_eq_some_iff.1 hu).1; omega)
  · rename_i hin
    have hn' := (List.getElem?_eq_some_iff.1 hn).1
    have hj : j < k := by have := (List.getElem?_eq_some_iff.1 hu).1; rwa [hx y (List.mem_of_getElem? hn)] at this
    rw [overA_out _ _ _ _ (by
      rcases Nat.lt_or_ge n i with hl | hl
      · left
        calc n * k + j < n * k + k := by omega
          _ = (n + 1) * k := (Nat.succ_mul n k).symm
          _ ≤ i * k := Nat.mul_le_mul_right _ hl
      · right
        have : (i + 1) * k ≤ n * k := Nat.mul_le_mul_right _ (by omega)
        rw [Nat.succ_mul] at this
        omega)]
    exact cells_of_take hx h4 n y j u hn hu
/-- Fewer elements. -/
theorem S.takeRow {g cap e k : Nat} {xs : List (List Value)} (hx : ∀ x, x ∈ xs → x.length = k) (n : Nat) (h : S w0 H w (growRow g cap e k xs :: L)) : S w0 H w (growRow g cap e k (xs.take n) :: L) :=
  h.imp fun o ⟨cur, ho, h1, h2, h3, h4⟩ => ⟨cur, ho, by simp; omega, h2, h3, take_of_cells (fun y hy => hx y (List.mem_of_mem_take hy)) (by rw [h3]; exact Nat.mul_le_mul_right _ (by simp; omega)) fun i y j u hi hj => by
    rw [List.getElem?_take] at hi
    split at hi
    · exact cells_of_take hx h4 i y j u hi hj
    · cases hi⟩
/-- The spare is written. -/
theorem S.setSpare {g cap e k o : Nat} {xs : List (List Value)} (vs : List Value) (ho : xs.length * k ≤ o) (h : S w0 H w (growRow g cap e k xs :: L)) : S w0 H (w.setCells g o vs) (growRow g cap e k xs :: L) := by
  obtain ⟨u, ⟨cur, rfl, h1, h2, h3, h4⟩, h⟩ := h.known
  have h : S w0 H w (row g cur e :: L) := h
  refine (h.setCells vs o).imp fun u hu => ⟨_, hu, h1, h2, by simpa using h3, ?_⟩
  rw [← h4]
  apply List.ext_getElem?
  intro t
  rw [List.getElem?_take, List.getElem?_take]
  split
  · rw [Array.getElem?_toList, Array.getElem?_toList, overA_out _ _ _ _ (by omega)]
  · rfl
/-- The cells of an element, in the walk's worlds. -/
theorem S.growCell {g cap e k i : Nat} {xs : List (List Value)} {x : List Value} (hx : ∀ x, x ∈ xs → x.length = k) (h : S w0 H w (growRow g cap e k xs :: L)) (hi : xs[i]? = some x) :
    ∀ w', (∃ n, w' = w.drewN n) → ∀ j u, x[j]? = some u → w'.cell? ⟨g, i * k + j, none⟩ = some u := by
  rintro _ ⟨n, rfl⟩ j u hj
  obtain ⟨o, ho, cur, rfl, h1, h2, h3, h4⟩ := h.own _ List.mem_cons_self
  have ho : w.heap[g]? = some (.cells cur e) := ho
  have := cells_of_take hx h4 i x j u hi hj
  simp [World.cell?, ho, this]
/-- Cells that are there. -/
theorem S.growThere {g cap e k o n : Nat} {xs : List (List Value)} (h : S w0 H w (growRow g cap e k xs :: L)) (hn : o + n ≤ cap * k) : w.there g o n := by
  obtain ⟨u, ho, cur, rfl, h1, h2, h3, h4⟩ := h.own _ List.mem_cons_self
  have ho : w.heap[g]? = some (.cells cur e) := ho
  intro j hj
  have hlt : o + j < cur.size := by omega
  constructor
  · simp [World.cell?, ho, hlt]
  · simp [World.frozen?, ho]
/-- 'clear(s)' on structs: the cells hold zero values; here only: some one-cell values. -/
theorem run_clear_agg {P : Program} (w : World) (t e ty : TypeId) (z : Value) (ht : P.underlying t = some (.slice e)) (hv : ∀ w, (zeroValue e).run P w = .ok z w) (h1 : ∀ v ∈ z.cells, v.oneCell' = true) (b o n c : Nat) (hn : 0 < n)
    (hth : w.there b o (n * z.cells.size)) : ∃ vs, (Builtin.clear_ #[t] ty #[.slice (some ⟨b, o, none⟩) n c]).run P w = .ok (.tuple #[]) (w.setCells b o vs) := by
  have hl : (Builtin.zeroCells z.cells n).toList.length = n * z.cells.size := by simp [Builtin.zeroCells]
  have h1' : ∀ v ∈ (Builtin.zeroCells z.cells n).toList, v.oneCell' = true := by
    intro v hv
    obtain ⟨i, hi, rfl⟩ := Array.mem_map.1 (Array.mem_toList_iff.1 hv)
    have hi := Array.mem_range.1 hi
    have hz : 0 < z.cells.size := by
      rcases Nat.eq_zero_or_pos z.cells.size with h0 | h0
      · rw [h0] at hi; omega
      · exact h0
    have hm := Nat.mod_lt i hz
    rw [getElem!_pos z.cells _ hm]
    exact h1 _ (Array.getElem_mem hm)
  have hst := run_storeCells_cells (P := P) b o (Builtin.zeroCells z.cells n).toList 0 w (fun j hj => (hth j (by omega)).1) (fun j hj => (hth j (by omega)).2) h1'
  simp only [Nat.add_zero] at hst
  obtain ⟨m, rfl⟩ : ∃ m, n = m + 1 := ⟨n - 1, by omega⟩
  exact ⟨(Builtin.zeroCells z.cells (m + 1)).toList, by simp [Builtin.clear_, run_underlying ht, hv, hst]⟩
#print axioms run_clear_agg
#print axioms S.setElem
#print axioms S.growThere
end Go.Proofs.Bc
