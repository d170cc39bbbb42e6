/- manifest.StageDigest at the one text that the examples ask: reckoned by the executor. -/
import Derived.Test.YtglbbdailankpaaGreatDoorD0
namespace Go.Proofs.Bc
open Go
def u32s : List Nat → List AV := fun l => l.map fun n => .int .u32 (.ofNat n)
def startL : List Nat := [1779033703, 3144134277, 1013904242, 2773480762, 1359893119, 2600822924, 528734635, 1541459225]
def constL : List Nat := [1116352408, 1899447441, 3049323471, 3921009573, 961987163, 1508970993, 2453635748, 2870763221, 3624381080, 310598401, 607225278, 1426881987, 1925078388, 2162078206, 2614888103, 3248222580, 3835390401, 4022224774, 264347078, 604807628, 770255983, 1249150122, 1555081692, 1996064986, 2554220882, 2821834349, 2952996808, 3210313671, 3336571891, 3584528711, 113926993, 338241895, 666307205, 773529912, 1294757372, 1396182291, 1695183700, 1986661051, 2177026350, 2456956037, 2730485921, 2820302411, 3259730800, 3345764771, 3516065817, 3600352804, 4094571909, 275423344, 430227734, 506948616, 659060556, 883997877, 958139571, 1322822218, 1537002063, 1747873779, 1955562222, 2024104815, 2227730452, 2361852424, 2428436474, 2756734187, 3204031479, 3329325298]
def fnv (n : Nat) : AV := .func (.func n) [] []
def putO (h : Option (Tr AObj)) (l : Nat) (o : AObj) : Option (Tr AObj) := match h with
  | some h => Tr.put fuelT h l (some o)
  | none => none
/-- The heap with the two tables of sha. -/
def heap2 (t0 t3 : TypeId) : Option (Tr AObj) := putO (putO (some .nil) 0 (.cells (u32s startL) t0)) 3 (.cells (u32s constL) t3)
def textA : AV := .str ⟨#[97, 99, 99, 101, 112, 116, 59]⟩
def digL : List Nat := [236, 149, 170, 229, 248, 143, 195, 165, 117, 120, 238, 130, 96, 34, 36, 18]
def dig : AV := .agg (digL.map fun n => .int .u8 (.ofNat n))
def sameRes (v : AV) : Option (AV × St) → Bool
  | some (u, _) => AV.same u v
  | none => false
noncomputable def digB (t0 t3 : TypeId) : Bool := match heap2 t0 t3 with
  | some h => sameRes dig ((tools Tryz.prog K0 300).call 9 [textA] { h := h, c := 15, lo := 15 })
  | none => false
set_option maxRecDepth 1000000 in
theorem dig_run (t0 t3 : TypeId) : digB t0 t3 = true := by kernel_rfl
#print axioms dig_run
end Go.Proofs.Bc
