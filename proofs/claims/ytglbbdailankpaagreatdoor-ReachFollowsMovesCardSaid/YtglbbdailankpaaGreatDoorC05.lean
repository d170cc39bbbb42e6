/- slices.Compact on digests: the plain law. -/
import Derived.Test.YtglbbdailankpaaGreatDoorB6
namespace Go.Proofs.Bc
open Go Go.RowKit
section
variable {α : Type} [DecidableEq α]
/-- Neighbours that are equal, once. -/
def dd : List α → List α
  | [] => []
  | [x] => [x]
  | x :: y :: l => if x = y then dd (y :: l) else x :: dd (y :: l)
theorem dd_snoc : ∀ (l : List α) (a b : α), dd (l ++ [a, b]) = if a = b then dd (l ++ [a]) else dd (l ++ [a]) ++ [b]
  | [], a, b => by by_cases h : a = b <;> simp [dd, h]
  | [x], a, b => by
    have := dd_snoc [] a b
    simp only [List.nil_append, List.cons_append, dd] at this ⊢
    by_cases h : a = b <;> by_cases h2 : x = a <;> simp_all
  | x :: y :: l, a, b => by
    have := dd_snoc (y :: l) a b
    simp only [List.cons_append, dd] at this ⊢
    by_cases h : a = b <;> by_cases h2 : x = y <;> simp_all
theorem mem_dd : ∀ (l : List α) (x : α), x ∈ dd l ↔ x ∈ l
  | [], _ => by simp [dd]
  | [_], _ => by simp [dd]
  | a :: b :: l, x => by
    have := mem_dd (b :: l) x
    unfold dd
    split
    · rename_i h; subst h; rw [this]; simp
    · simp only [List.mem_cons] at this ⊢; rw [this]
theorem dd_length_le : ∀ (l : List α), (dd l).length ≤ l.length
  | [] => by simp [dd]
  | [_] => by simp [dd]
  | a :: b :: l => by
    have := dd_length_le (b :: l)
    unfold dd
    split <;> simp at this ⊢ <;> omega
theorem dd_pos (l : List α) (h : 0 < l.length) : 0 < (dd l).length := by
  cases l with
  | nil => simp at h
  | cons a l =>
    have : a ∈ dd (a :: l) := (mem_dd _ _).2 List.mem_cons_self
    exact List.length_pos_of_mem this
/-- Of a sorted list: strictly sorted. -/
theorem dd_sorted {r : α → α → Prop} (ht : ∀ a b c, r a b → r b c → r a c) : ∀ (l : List α), l.Pairwise r → (∀ a b, r a b → r b a → a = b) → (dd l).Pairwise fun a b => r a b ∧ a ≠ b
  | [], _, _ => by simp [dd]
  | [_], _, _ => by simp [dd]
  | a :: b :: l, hp, ha => by
    have ih := dd_sorted ht (b :: l) (List.pairwise_cons.1 hp).2 ha
    unfold dd
    split
    · exact ih
    · rename_i hne
      refine List.pairwise_cons.2 ⟨fun x hx => ?_, ih⟩
      have hx := (mem_dd _ _).1 hx
      have h1 := (List.pairwise_cons.1 hp).1 x hx
      refine ⟨h1, fun e => ?_⟩
      subst e
      rcases List.mem_cons.1 hx with rfl | hx
      · exact hne rfl
      · have h2 := (List.pairwise_cons.1 (List.pairwise_cons.1 hp).2).1 _ hx
        exact hne (ha _ _ ((List.pairwise_cons.1 hp).1 b List.mem_cons_self) h2)
/-- One element more, seen from the index. -/
theorem dd_take (l : List α) (k : Nat) (h1 : 0 < k) (h2 : k < l.length) : dd (l.take (k + 1)) = if l[k - 1]'(by omega) = l[k] then dd (l.take k) else dd (l.take k) ++ [l[k]] := by
  obtain ⟨m, rfl⟩ : ∃ m, k = m + 1 := ⟨k - 1, by omega⟩
  have e1 : l.take (m + 1) = l.take m ++ [l[m]] := List.take_succ_eq_append_getElem (by omega)
  have e2 : l.take (m + 1 + 1) = l.take m ++ [l[m], l[m + 1]] := by
    rw [List.take_succ_eq_append_getElem (by omega : m + 1 < l.length), e1, List.append_assoc]; rfl
  rw [e2, dd_snoc, e1]
  simp
/-- The state of the second loop: the row es, n elements of ds gone through, kk written. -/
structure Cmp (ds es : List α) (n kk : Nat) : Prop where
  len : es.length = ds.length
  le : kk < n
  pos : 0 < kk
  lim : n ≤ ds.length
  pre : es.take kk = dd (ds.take n)
  rest : ∀ j, n ≤ j + 1 → es[j]? = ds[j]?
theorem Cmp.start {ds : List α} {k : Nat} (h0 : 0 < k) (hk : k < ds.length) (h : dd (ds.take k) = ds.take k) (he : ds[k - 1]'(by omega) = ds[k]) : Cmp ds ds (k + 1) k :=
  ⟨rfl, by omega, h0, hk, by rw [dd_take ds k h0 hk, if_pos he, h], fun _ _ => rfl⟩
theorem Cmp.skip {ds es : List α} {n kk : Nat} (h : Cmp ds es n kk) (hn : n < ds.length) (he : ds[n - 1]'(by omega) = ds[n]) : Cmp ds es (n + 1) kk :=
  ⟨h.len, by have := h.le; omega, h.pos, hn, by rw [dd_take ds n (by have := h.le; omega) hn, if_pos he]; exact h.pre, fun j hj => h.rest j (by omega)⟩
theorem Cmp.step {ds es : List α} {n kk : Nat} (h : Cmp ds es n kk) (hn : n < ds.length) (he : ¬ ds[n - 1]'(by omega) = ds[n]) : Cmp ds (es.set kk ds[n]) (n + 1) (kk + 1) := by
  have h1 := h.le
  have h2 := h.len
  refine ⟨by simpa using h.len, by omega, by omega, hn, ?_, fun j hj => ?_⟩
  · rw [dd_take ds n (by omega) hn, if_neg he, ← h.pre, List.take_succ_eq_append_getElem (by simp; omega), List.take_set_of_le (Nat.le_refl _)]
    simp
  · rw [List.getElem?_set, if_neg (by omega)]
    exact h.rest j (by omega)
end
#print axioms Cmp.step
end Go.Proofs.Bc
