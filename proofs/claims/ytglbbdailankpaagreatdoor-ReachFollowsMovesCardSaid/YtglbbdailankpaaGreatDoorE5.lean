/- A world that fits: each listed variable lies as the row says. -/
import Derived.Test.YtglbbdailankpaaGreatDoorE4
import Derived.ProofKit
import Derived.OpenShut
import Derived.Lay
import Derived.Stop.Joined
namespace Go.Proofs.Bc
open Go Go.ChangeShapes Go.WideShapes Go.ChangeAt Go.RowKit

/-! ### The witness: a world in which each listed variable lies -/
def setCells (vs : List Value) : Obj → Obj
  | .cells _ t fr => .cells ⟨vs⟩ t fr
  | o => o
noncomputable def base0 (os : Os) : World :=
  { World.holding Tryz.prog os ⟨#[], #[], []⟩ with heap := ((World.holding Tryz.prog os ⟨#[], #[], []⟩).heap.modify 7 (setCells (instN.map fnVal))).modify 1 (setCells (evalN.map fnVal)) }
abbrev laidN : List (String × DataW Unit) := laidL.filter fun x => x.2.handleName?.isNone
noncomputable def start0 (os : Os) : World := (base0 os).layVars Tryz.prog laidN
theorem start0_os (os : Os) : (start0 os).os = os := (World.layVars_os _ _ _).trans rfl
theorem start0_plain (os : Os) (args : Array Value) : laidMet Tryz.prog laidN ((start0 os).forCall (fun _ _ => 0) ⟨#[], args, []⟩).memory := by
  have e1 : (laidN.filter fun x => (laidN.map (·.1)).contains x.1) = laidN := List.filter_eq_self.2 fun x hx => List.contains_iff_mem.2 (List.mem_map.2 ⟨x, hx, rfl⟩)
  have e2 : (laidN.filter fun x => !(laidN.map (·.1)).contains x.1) = [] := List.filter_eq_nil_iff.2 fun x hx => by rw [List.contains_iff_mem.2 (List.mem_map.2 ⟨x, hx, rfl⟩)]; simp
  have hf : (base0 os).layFits Tryz.prog laidN [] = true := by kernel_rfl
  have hi : (base0 os).layIfaces Tryz.prog laidN (start0 os) = true := by kernel_rfl
  have h : laidMet Tryz.prog laidN (start0 os) := laidMet_layVars (w0 := base0 os) (laidN.map (·.1)) [] (by rw [e1]; rfl) (by rw [e1]; exact hf) (by rw [e1]; exact hi) (by rw [e2]; exact LaidIn.none)
  exact h.of_heap (by simp [World.memory, World.forCall, Input.heap])
theorem start0_met (os : Os) (args : Array Value) : laidMetH Tryz.prog laidL ((start0 os).forCall (fun _ _ => 0) ⟨#[], args, []⟩).memory :=
  laidMetH_of_parts3 (fuel := 8) (start0_plain os args) (by kernel_rfl) (by kernel_rfl)

theorem start0_shaped (os : Os) : (start0 os).Shaped Tryz.prog := World.shaped_of_ZipB (by kernel_rfl) (by kernel_rfl)
end Go.Proofs.Bc
