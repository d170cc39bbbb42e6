/- Two own slices at once. -/
import Derived.Test.YtglbbdailankpaaGreatDoorB9
namespace Go.Proofs.Bc
open Go Go.RowKit
variable {w0 w : World} {H : Snap} {L : List Chunk} {e size : Nat} {v : Value} {xs : List (List Value)}
/-- The slice's block, told by itself. -/
theorem SO.both (h : SO w0 H w e size v xs L) : ∃ C : List Chunk, S w0 H w (C ++ L) ∧ ∀ w' H' L', S w0 H' w' (C ++ L') → SO w0 H' w' e size v xs L' := by
  rcases h with ⟨h1, h2, h3⟩ | ⟨g, cap, h1, h2⟩
  · exact ⟨[], h3, fun w' H' L' h => .inl ⟨h1, h2, h⟩⟩
  · exact ⟨[_], h2, fun w' H' L' h => .inr ⟨g, cap, h1, h⟩⟩
theorem SO.weaken {L' : List Chunk} (h : SO w0 H w e size v xs L) (hs : L'.Sublist L) : SO w0 H w e size v xs L' := by
  obtain ⟨C, h1, h2⟩ := h.both
  exact h2 _ _ _ (h1.weaken ((List.Sublist.refl C).append hs))
/-- An own slice as what is appended. -/
theorem SO.src (h : SO w0 H w e size v xs L) (hx : ∀ x, x ∈ xs → x.length = size) (hp : 0 < xs.length) : ∃ ad c, v = .slice (some ad) xs.length c ∧ ∀ j u, xs.flatten[j]? = some u → w.cell? (ad.add j) = some u := by
  have hr := h.ownsRow hx
  rcases h with ⟨h1, h2, h3⟩ | ⟨g, cap, rfl, h2⟩
  · subst h2; simp at hp
  · exact ⟨_, _, rfl, hr.cells (g := g) rfl⟩
theorem SO.srcAt (h : SO w0 H w e size v xs L) (hx : ∀ x, x ∈ xs → x.length = size) (hp : 0 < xs.length) (m : Nat) (hm : xs.length = m) : ∃ ad c, v = .slice (some ad) m c ∧ ∀ j u, xs.flatten[j]? = some u → w.cell? (ad.add j) = some u := hm ▸ h.src hx hp
theorem run_append_at {P : Program} {t ty : TypeId} {bytes : Nat} {z : Value} (hown : SO w0 H w e size v xs L) (hxs : ∀ x, x ∈ xs → x.length = size) (ht : P.underlying t = some (.slice e))
    (hinfo : (P.info? e).map (fun i => (i.zero, i.size, i.bytes)) = some (some z, size, bytes)) (hzs : z.cells.size = size) (hsz : 0 < size)
    (ad : Addr) (c : Nat) (ys : List (List Value)) (m : Nat) (hm : ys.length = m) (hys : ∀ y, y ∈ ys → y.length = size) (hpos : 0 < ys.length) (hnews : ∀ j u, ys.flatten[j]? = some u → w.cell? (ad.add j) = some u) (h1 : ∀ u, u ∈ ys.flatten → u.oneCell' = true)
    (h63 : xs.length + ys.length ≤ maxLen) (hbytes : (xs.length + ys.length) * bytes ≤ 140737488355328) :
    ∃ v' w', (Builtin.append_ #[t, t] ty #[v, .slice (some ad) m c]).run P w = .ok v' w' ∧ SO w0 H w' e size v' (xs ++ ys) L :=
  hm ▸ run_append_many hown hxs ht hinfo hzs hsz ad c ys hys hpos hnews h1 h63 hbytes
/-- What a callee that owns nothing of ours leaves of our slice. -/
theorem SO.swap {v2 : Value} {ys : List (List Value)} {e2 size2 : Nat} {C : List Chunk} (h : SO w0 H w e2 size2 v2 ys (C ++ L)) (hb : ∀ w' H' L', S w0 H' w' (C ++ L') → SO w0 H' w' e size v xs L') :
    ∃ D, SO w0 H w e size v xs (D ++ L) := by
  obtain ⟨D, h1, h2⟩ := h.both
  refine ⟨D, hb _ _ _ (h1.perm ?_)⟩
  rw [← List.append_assoc, ← List.append_assoc]
  exact List.perm_append_comm.append_right L
#print axioms SO.swap
end Go.Proofs.Bc
