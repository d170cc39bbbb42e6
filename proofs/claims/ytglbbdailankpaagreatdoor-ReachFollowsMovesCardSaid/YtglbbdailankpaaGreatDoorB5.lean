/- Lending a slice of the call's own to a callee that reads. -/
import Derived.Test.YtglbbdailankpaaGreatDoorB4
namespace Go.Proofs.Bc
open Go Go.RowKit
variable {w0 w : World} {H : Snap} {L : List Chunk} {e size : Nat} {v : Value}
/-- While a callee reads, the slice's block counts as one that nobody writes. -/
theorem SO.lend {α : Type} {enc : α → List Value} {zs : List α} (h : SO w0 H w e size v (zs.map enc) L) (hx : ∀ z, (enc z).length = size) :
    ∃ H', H.Sub H' ∧ S w0 H' w L ∧ Rd H' size enc v zs ∧ ∀ w', S w0 H' w' L → SO w0 H w' e size v (zs.map enc) L := by
  rcases h with ⟨rfl, h2, h3⟩ | ⟨g, cap, rfl, h⟩
  · have : zs = [] := by simpa using h2
    subst this
    exact ⟨H, Snap.Sub.refl _, h3, Rd.nil _ _ _, fun w' h => .inl ⟨rfl, h2, h⟩⟩
  · have hfree : H g = none := h.free _ List.mem_cons_self
    obtain ⟨o, hk, _, hs, hS⟩ := h.freeze
    obtain ⟨cur, rfl, h1, h2, h3, h4⟩ := hk
    refine ⟨_, hs, hS, ⟨_, cap, by rw [List.length_map], by simpa using h1, h2, fun _ => ⟨g, 0, rfl, fun i z hz j u hu => ?_⟩⟩, fun w' h' => .inr ⟨g, cap, rfl, ?_⟩⟩
    · show cellOf (H.put g (.cells cur e) g) ⟨g, 0 + i * size + j, none⟩ = some u
      rw [Snap.put_same]
      have hi : i < zs.length := (List.getElem?_eq_some_iff.1 hz).1
      have hj : j < size := by have := (List.getElem?_eq_some_iff.1 hu).1; rw [hx] at this; exact this
      have hg := flatten_get size (zs.map enc) (fun x hx' => by obtain ⟨z, _, rfl⟩ := List.mem_map.1 hx'; exact hx z) i j (enc z) u (by rw [List.getElem?_map, hz]; rfl) hu
      rw [← h4, List.getElem?_take_of_lt (by
        rw [List.length_map]
        calc i * size + j < i * size + size := by omega
          _ = (i + 1) * size := (Nat.succ_mul i size).symm
          _ ≤ zs.length * size := Nat.mul_le_mul_right _ hi)] at hg
      simpa [cellOf] using hg
    · have h' : S w0 (H.put g (.cells cur e)) w' L := h'
      exact (h'.thaw hfree).imp fun o ho => ⟨cur, ho, h1, h2, h3, h4⟩
#print axioms SO.lend
end Go.Proofs.Bc
