/- The row: for every input that reads as data law 38 ReachFollowsMoves returns true and leaves its arguments as they were. -/
import Derived.Test.YtglbbdailankpaaGreatDoorE6
namespace Go.Proofs.Bc
open Go Go.ChangeShapes Go.WideShapes Go.ChangeAt Go.RowKit

theorem row_holds : YtglbbdailankpaaGreatDoor.Rows.ReachFollowsMovesSaid :=
  OpenClaim.holds_of_wide 3 Tryz.f3 rfl rfl rfl rfl rfl rfl rfl ⟨rfl, rfl, rfl, rfl, rfl⟩ rfl rfl rfl rfl rfl (by kernel_rfl) Tryz.func3 (by kernel_rfl)
    (of_decide_eq_true (by kernel_rfl)) (by unfold Func.isWrapper; first | (rw [if_pos (by decide +kernel)]; kernel_rfl) | (rw [if_neg (by decide +kernel)]; exact ⟨rfl, rfl⟩))
    (fun os started H enc _ => lifted os started H enc)
#print axioms row_holds
end Go.Proofs.Bc
