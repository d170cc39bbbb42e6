/- For every secret, every route of devices and every early device, law 38 ReachFollowsMoves returns true and leaves its arguments as they were: the row and its tied card. Conditions: the thirteen listed package variables read as the text of the program lays them (tied); parse.operators may hold anything. -/
import Derived.Test.YtglbbdailankpaaGreatDoorE7
import Derived.Test.YtglbbdailankpaaGreatDoorTie
import Derived.Test.YtglbbdailankpaaGreatDoorCards
import Derived.SevenTiedAt
namespace Go.Proofs.YtglbbdailankpaaGreatDoor
open Go Go.Proofs.Bc

theorem reachFollowsMoves_holds : Rows.ReachFollowsMovesCardSaid :=
  Claim7.holds_tied_plain_at .later [] [.data, .data, .data, .data, .data, .funcs, .sentinel, .sentinel, .data, .data, .widerDeep, .funcs, .pinned] true (true, "676bc7490bf6859167794139a06f921fa218c8d11385782b33a299fda90fa665") true
    row_holds (fun _ h => by cases h) (by kernel_rfl) (fun _ h => by cases h) reachFollowsMoves_row_tie rfl ⟨rfl, rfl⟩ (by kernel_rfl) rfl
    (fun f fn hf hfn => by
      obtain rfl : f = 3 := Option.some.inj ((show Tryz.prog.funcNamed "bootchain/bootchainlaw38.ReachFollowsMoves" = some 3 by kernel_rfl).symm.trans hf) |>.symm
      obtain rfl : fn = Tryz.f3 := (Option.some.inj (Tryz.func3.symm.trans hfn)).symm
      exact ⟨by kernel_rfl, fun j t ht => by
        rw [Tryz.params3] at ht
        have hm : t ∈ [3, 22, 5] := by simpa using Array.mem_of_getElem? ht
        have hall : ([3, 22, 5].all fun u => !Tryz.prog.wantsStandIn u) = true := by kernel_rfl
        exact (show Tryz.prog.wantsStandIn t = false by simpa using List.all_eq_true.1 hall t hm)⟩)
    (by kernel_rfl)
#print axioms reachFollowsMoves_holds
end Go.Proofs.YtglbbdailankpaaGreatDoor
