/- A guarded operation that runs: as if it had no guard. -/
import Derived.Test.YtglbbdailankpaaGreatDoorB7
namespace Go.Proofs.Bc
open Go Go.RowKit
variable {P : Program} {ops : Array Oper} {rest : List Oper} {a : Act} {w : World} {Q : Exit → Act → World → Prop}
theorem wpList_unguard {g : Nat × Bool} {d op t pos af} (hw : Region.wanted ⟨d, op, t, pos, af, some g⟩ (yielded ops a.tmps) = true) (h : wpList P ops Q (⟨d, op, t, pos, af, none⟩ :: rest) a w) : wpList P ops Q (⟨d, op, t, pos, af, some g⟩ :: rest) a w := by
  unfold wpList at h ⊢
  rw [if_pos hw]
  rw [if_pos (by rfl)] at h
  exact h
#print axioms wpList_unguard
end Go.Proofs.Bc
