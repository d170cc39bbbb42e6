/- The plain law: what Holders hands back, told of the chain. -/
import Derived.Test.YtglbbdailankpaaGreatDoorC07
import Derived.Test.YtglbbdailankpaaGreatDoorE1
namespace Go.Proofs.Bc
open Go

def mvOf (s : Int) (p : UInt8 × UInt8) : Mv := ⟨s, devD p.1, devD p.2⟩
/-- The moves of a chain. -/
def movesOf (s : Int) (r : List UInt8) : List Mv := (r.zip r.tail).map (mvOf s)
def grOf (s : Int) (a : UInt8) : Gr := ⟨s, devD a, ⟨#[97, 110, 121]⟩, (none, 0, 0), (none, 0, 0)⟩

theorem movesOf_length (s : Int) (r : List UInt8) : (movesOf s r).length = r.length - 1 := by simp [movesOf]
theorem movesOf_get (s : Int) (r : List UInt8) {i : Nat} (h : i + 1 < r.length) : (movesOf s r)[i]? = some ⟨s, devD (r[i]'(by omega)), devD r[i + 1]⟩ := by
  have hz : (r.zip r.tail)[i]? = some (r[i]'(by omega), r[i + 1]) := List.getElem?_zip_eq_some.2 ⟨List.getElem?_eq_getElem (by omega), by rw [List.getElem?_tail]; exact List.getElem?_eq_getElem h⟩
  unfold movesOf
  rw [List.getElem?_map, hz]
  rfl

theorem fold_moves (s : Int) : ∀ (r : List UInt8) (a : UInt8) (l : List Dig), devD a ∈ l → (movesOf s (a :: r)).foldl (moved s) l = l ++ r.map devD
  | [], a, l, _ => by simp [movesOf]
  | b :: r, a, l, h => by
    have e : movesOf s (a :: b :: r) = mvOf s (a, b) :: movesOf s (b :: r) := by simp [movesOf]
    rw [e, List.foldl_cons, moved, if_pos ⟨rfl, h⟩, fold_moves s r b _ (by simp [mvOf])]
    simp [mvOf]

theorem reached_chain (s : Int) (a : UInt8) (r : List UInt8) : reached [grOf s a] (movesOf s (a :: r)) s = (a :: r).map devD := by
  unfold reached
  have : starts [grOf s a] s = [devD a] := by simp [starts, grOf]
  rw [this, fold_moves s r a _ (by simp)]
  rfl

/-- The holders of the chain's secret. -/
def held (r : List UInt8) : List Dig := dd (sortDigs (r.map devD))
theorem holders_chain (s : Int) (a : UInt8) (r : List UInt8) : holders [grOf s a] (movesOf s (a :: r)) s = held (a :: r) := by
  unfold holders held
  rw [reached_chain]

theorem mem_held {r : List UInt8} {x : UInt8} (h : x ∈ r) : devD x ∈ held r := by
  unfold held
  rw [mem_dd]
  unfold sortDigs
  rw [List.mem_mergeSort]
  exact List.mem_map.2 ⟨x, h, rfl⟩
theorem held_length (r : List UInt8) : (held r).length ≤ r.length := by
  unfold held
  refine Nat.le_trans (dd_length_le _) ?_
  rw [length_sortDigs, List.length_map]
  exact Nat.le_refl _

theorem held_sorted (r : List UInt8) : (held r).Pairwise fun x y => cmpDig x y < 0 := by
  unfold held
  have hs : (sortDigs (r.map devD)).Pairwise fun x y => cmpDig x y ≤ 0 := by
    have := List.pairwise_mergeSort (le := fun x y : Dig => !(ltOf cmpDig) y x) (fun a b c h1 h2 => by
      simp only [Bool.not_eq_true'] at h1 h2 ⊢
      exact swoDig.ntrans c b a h2 h1) (fun a b => by
      simp only [ltOf, Bool.or_eq_true, Bool.not_eq_true', decide_eq_false_iff_not, Int.not_lt]
      rw [cmpDig_swap]
      omega) (r.map devD)
    refine List.Pairwise.imp ?_ this
    intro x y h
    simp only [ltOf, Bool.not_eq_true', decide_eq_false_iff_not, Int.not_lt] at h
    rw [cmpDig_swap] at h
    omega
  have hd := dd_sorted (r := fun x y : Dig => cmpDig x y ≤ 0) (fun a b c h1 h2 => by
    rcases Int.lt_or_eq_of_le h1 with h1 | h1
    · rcases Int.lt_or_eq_of_le h2 with h2 | h2
      · exact Int.le_of_lt (cmpDig_trans h1 h2)
      · rw [← cmpDig_eq h2]; exact Int.le_of_lt h1
    · rw [cmpDig_eq h1]; exact h2) _ hs (fun a b h1 h2 => by
    rw [cmpDig_swap] at h2
    exact cmpDig_eq (by omega))
  refine List.Pairwise.imp ?_ hd
  rintro x y ⟨h, hne⟩
  rcases Int.lt_or_eq_of_le h with h | h
  · exact h
  · exact absurd (cmpDig_eq h) hne

theorem two_ne (x e : UInt8) : two 8 x ≠ devD e := fun h => by
  have := congrArg (fun d : Dig => d.1.head?) h
  simp [two, devD] at this
theorem holders_early (s : Int) (a e : UInt8) (r : List UInt8) : holders [grOf s a] (⟨s, two 8 e, two 7 0⟩ :: movesOf s (a :: r)) s = held (a :: r) := by
  rw [← holders_chain s a r]
  unfold holders reached
  have hs : starts [grOf s a] s = [devD a] := by simp [starts, grOf]
  rw [hs, List.foldl_cons]
  have : moved s [devD a] ⟨s, two 8 e, two 7 0⟩ = [devD a] := by
    unfold moved
    rw [if_neg]
    rintro ⟨_, h⟩
    exact two_ne e a (List.mem_singleton.1 h)
  rw [this]
theorem fold_other (s s' : Int) (h : s ≠ s') : ∀ (l : List Mv), (∀ m, m ∈ l → m.secret = s) → l.foldl (moved s') [] = []
  | [], _ => rfl
  | m :: l, hm => by
    rw [List.foldl_cons, moved, if_neg (fun hh => h ((hm m (by simp)).symm.trans hh.1))]
    exact fold_other s s' h l fun m' h' => hm m' (by simp [h'])
theorem holders_other (s s' : Int) (h : s ≠ s') (a : UInt8) (r : List UInt8) : holders [grOf s a] (movesOf s r) s' = [] := by
  unfold holders reached
  have hs : starts [grOf s a] s' = [] := by simp [starts, grOf, h]
  rw [hs, fold_other s s' h _ (fun m hm => by
    obtain ⟨p, _, rfl⟩ := List.mem_map.1 hm
    rfl)]
  have : sortDigs [] = [] := List.length_eq_zero_iff.1 (by rw [length_sortDigs]; rfl)
  rw [this]; rfl
end Go.Proofs.Bc
