/- sha: load, rotr. -/
import Derived.Test.YtglbbdailankpaaGreatDoorB8
import Derived.Test.YtglbbdailankpaaGreatDoorC01
namespace Go.Proofs.Bc
open Go Go.RowKit
def bcell (b : UInt8) : List Value := [.int .u8 b.toNat]
theorem bcell_length (b : UInt8) : (bcell b).length = 1 := rfl
def icell (n : Int) : List Value := [.int .i64 n]

def ldW (n : Int) (y : UInt8) : Int := bits .or .u32 (n * 256 % 4294967296) ((y.toNat : Int) % 4294967296)
def loadW (bs : List UInt8) : Int := bs.foldl ldW 0

set_option maxHeartbeats 1000000 in
theorem load_any {w0 w : World} {H : Snap} {L : List Chunk} (hS : S w0 H w L) (v : Value) (bs : List UInt8) (hv : Rd H 1 bcell v bs) (_hn : bs.length ≤ 1000000) :
    Calls Tryz.prog 95 #[v] w fun e w' => e = .returned (.int .u32 (loadW bs)) ∧ S w0 H w' L := by
  obtain ⟨a, c, rfl, _hc1, _hc2, hr⟩ := hv
  go_enter Tryz.func95, Tryz.ntmps95
  go_wp2
  go_loopg [3, 8] bs.length (fun g s3 s8 wr => ∃ kk : Nat, kk ≤ bs.length ∧ bs.length - kk ≤ g ∧ s8 = .int .i64 kk ∧ s3 = .int .u32 (loadW (bs.take kk)) ∧ S w0 H wr L)
  case atStart => exact ⟨0, Nat.zero_le _, by omega, rfl, rfl, hS⟩
  case round =>
    obtain ⟨kk, hkk, hg, rfl, rfl, hSr⟩ := hrel
    by_cases hlt : kk < bs.length
    · obtain ⟨b, off, rfl, hcell⟩ := hr (by omega)
      have Hrw := asid (hSr.elem (List.getElem?_eq_getElem hlt) hcell _ ⟨0, rfl⟩ 0 _ rfl)
      clear hr hcell
      have hltz : (kk : Int) < (bs.length : Int) := by omega
      have h01 : 0 ≤ (kk : Int) := by omega
      have B : Aside (loadW (bs.take (kk + 1)) = ldW (loadW (bs.take kk)) bs[kk]) := by
        show _ = _
        rw [List.take_succ_eq_append_getElem hlt, loadW, List.foldl_append]; rfl
      generalize bs[kk] = y at Hrw B
      generalize loadW (bs.take kk) = n at B
      go_wp2_with (first | (refine wpList_load_one rfl _ _ rfl rfl (.int .u8 y.toNat) (fun _ => by kernel_rfl) (by simpa using Hrw.out) ?_))
      go_roundg (bs.length - (kk + 1))
      case measure => omega
      case rel => exact ⟨kk + 1, by omega, by omega, by go_num, by rw [B.out]; rfl, hSr⟩
    · have hltz : ¬ (kk : Int) < (bs.length : Int) := by omega
      have : kk = bs.length := by omega
      subst this
      rw [List.take_length]
      go_wp2
      go_ret
      exact ⟨rfl, hSr⟩

def rotW (x n y : Int) : Int := bits .xor .u32 n (bits .or .u32 (x * 2 ^ (32 - y).toNat % 4294967296) (x / 2 ^ (32 - (32 - y)).toNat))
def rotrW (x : Int) (ks : List Int) : Int := ks.foldl (rotW x) 0
theorem rot_amount : ∀ m : Fin 32, 0 < m.1 → bits .and .u64 (IntKind.u64.wrap (-(m.1 : Int))) 31 = 32 - (m.1 : Int) := by decide +kernel

set_option maxHeartbeats 1000000 in
theorem rotr_any {w0 w : World} {H : Snap} {L : List Chunk} (hS : S w0 H w L) (x : Int) (v : Value) (ks : List Int) (hv : Rd H 1 icell v ks) (_hn : ks.length ≤ 1000000) (_hk : ∀ k ∈ ks, 1 ≤ k ∧ k ≤ 31) :
    Calls Tryz.prog 96 #[.int .u32 x, v] w fun e w' => e = .returned (.int .u32 (rotrW x ks)) ∧ S w0 H w' L := by
  obtain ⟨a, c, rfl, _hc1, _hc2, hr⟩ := hv
  go_enter Tryz.func96, Tryz.ntmps96
  go_wp2
  go_loopg [5, 10] ks.length (fun g s5 s10 wr => ∃ kk : Nat, kk ≤ ks.length ∧ ks.length - kk ≤ g ∧ s10 = .int .i64 kk ∧ s5 = .int .u32 (rotrW x (ks.take kk)) ∧ S w0 H wr L)
  case atStart => exact ⟨0, Nat.zero_le _, by omega, rfl, rfl, hS⟩
  case round =>
    obtain ⟨kk, hkk, hg, rfl, rfl, hSr⟩ := hrel
    by_cases hlt : kk < ks.length
    · obtain ⟨b, off, rfl, hcell⟩ := hr (by omega)
      have Hrw := asid (hSr.elem (List.getElem?_eq_getElem hlt) hcell _ ⟨0, rfl⟩ 0 _ rfl)
      clear hr hcell
      have hltz : (kk : Int) < (ks.length : Int) := by omega
      have h01 : 0 ≤ (kk : Int) := by omega
      have hy := _hk ks[kk] (List.getElem_mem hlt)
      have B : Aside (rotrW x (ks.take (kk + 1)) = rotW x (rotrW x (ks.take kk)) ks[kk]) := by
        show _ = _
        rw [List.take_succ_eq_append_getElem hlt, rotrW, List.foldl_append]; rfl
      generalize ks[kk] = y at Hrw hy B
      generalize rotrW x (ks.take kk) = n at B
      obtain ⟨hy0, hy1⟩ := hy
      have hb : bits .and .u64 (IntKind.u64.wrap (-y)) 31 = 32 - y := by
        obtain ⟨m, rfl⟩ := Int.eq_ofNat_of_zero_le (show 0 ≤ y by omega)
        exact rot_amount ⟨m, by omega⟩ (by show 0 < m; omega)
      have hb0 : 0 ≤ 32 - y := by omega
      have hb1 : 32 - y ≤ 32 := by omega
      go_wp2_with (first | (refine wpList_load_one rfl _ _ rfl rfl (.int .i64 y) (fun _ => by kernel_rfl) (by simpa using Hrw.out) ?_) | go_in)
      go_roundg (ks.length - (kk + 1))
      case measure => omega
      case rel => exact ⟨kk + 1, by omega, by omega, by go_num, by rw [B.out]; rfl, hSr⟩
    · have hltz : ¬ (kk : Int) < (ks.length : Int) := by omega
      have : kk = ks.length := by omega
      subst this
      rw [List.take_length]
      go_wp2
      go_ret
      exact ⟨rfl, hSr⟩
#print axioms rotr_any
end Go.Proofs.Bc
