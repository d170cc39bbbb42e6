/- law38.device: its 256 inputs by the executor. -/
import Derived.Test.YtglbbdailankpaaGreatDoorD2
namespace Go.Proofs.Bc
open Go Go.RowKit
variable {P : Program}

/-- The digest that opens with two bytes. -/
def two (a b : UInt8) : Dig := ⟨[a, b, 0, 0, 0, 0, 0, 0, 0, 0, 0, 0, 0, 0, 0, 0], rfl⟩
def devD (k : UInt8) : Dig := two 9 k
def devL (k : Nat) : List Nat := [9, k, 0, 0, 0, 0, 0, 0, 0, 0, 0, 0, 0, 0, 0, 0]
def devA (k : Nat) : AV := .agg ((devL k).map fun n => .int .u8 (.ofNat n))
noncomputable def devB (k : Nat) : Bool := sameRes (devA k) ((tools Tryz.prog K0 20).call 5 [.int .u8 (.ofNat k)] { h := .nil, c := 15, lo := 15 })
set_option maxRecDepth 1000000 in
theorem dev_run : (List.range 256).all devB = true := by kernel_rfl

theorem nil_ok (w : World) : GlobOK P w .nil := ⟨fun l h => absurd rfl h, fun l o h => by simp [Tr.get] at h⟩
theorem device_of (hsz : P.globals.size = 15) (hm : P.follows .mixedOrders = true) (hK : KnownOK P K0) (hb : hasBody P 5 = true)
    (hrun : ∀ k, k < 256 → ∃ st', (tools P K0 20).call 5 [.int .u8 (.ofNat k)] { h := .nil, c := 15, lo := 15 } = some (devA k, st'))
    (w : World) (k : UInt8) : Calls P 5 #[.int .u8 k.toNat] w fun e w' => e = .returned (devD k).val ∧ Grown w w' := by
  have hI := (nil_ok (P := P) w).inv
  rw [hsz] at hI
  obtain ⟨st', hr⟩ := hrun k.toNat k.toNat_lt
  refine (callsIn_wide (n := 0)).1 ((closed_call hm hK hr hb hI (vs := [.int .u8 k.toNat]) (Rels.cons_iff.2 ⟨_, [], by simp only [Rel]; rfl, Rels.nil_iff.2 rfl, rfl⟩) 0).mono ?_)
  rintro e w' ⟨u, rfl, ⟨ι', hrel⟩, hgr⟩
  unfold devA at hrel
  simp only [Rel] at hrel
  obtain ⟨vs, h1, rfl⟩ := hrel
  rw [rels_ints.1 h1]
  exact ⟨rfl, hgr⟩
theorem device_body : hasBody Tryz.prog 5 = true := by kernel_rfl
theorem dev_runs (k : Nat) (hk : k < 256) : ∃ st', (tools Tryz.prog K0 20).call 5 [.int .u8 (.ofNat k)] { h := .nil, c := 15, lo := 15 } = some (devA k, st') :=
  sameRes_inv (List.all_eq_true.1 dev_run k (List.mem_range.2 hk))
set_option maxRecDepth 100000 in
theorem device_grown (w : World) (k : UInt8) : Calls Tryz.prog 5 #[.int .u8 k.toNat] w fun e w' => e = .returned (devD k).val ∧ Grown w w' :=
  device_of (P := Tryz.prog) globals_size mixed_orders K0_ok device_body dev_runs w k
theorem device_any {w0 w : World} {H : Snap} {L : List Chunk} (hS : S w0 H w L) (k : UInt8) :
    Calls Tryz.prog 5 #[.int .u8 k.toNat] w fun e w' => e = .returned (devD k).val ∧ S w0 H w' L :=
  (device_grown w k).mono fun _ _ h => ⟨h.1, Grown.S hS h.2⟩
#print axioms device_any
end Go.Proofs.Bc
