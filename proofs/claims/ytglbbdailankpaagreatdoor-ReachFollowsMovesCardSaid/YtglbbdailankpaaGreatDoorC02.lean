/- The order of two digests: reach.compare, over bytes.Compare. -/
import Derived.Test.YtglbbdailankpaaGreatDoorC01
import Derived.Lib.Bytealg
import Derived.Laws.Externs
namespace Go.Proofs.Bc
open Go Go.RowKit
variable {P : Program}
theorem run_loadBytes (w : World) (b off : Nat) : ∀ (l : List UInt8) (i : Nat) (acc : List UInt8), (∀ j x, l[j]? = some x → w.cell? ⟨b, off + i + j, none⟩ = some (.int .u8 x.toNat)) →
    (Extern.Bytes.loadBytes ⟨b, off + i, none⟩ l.length ⟨acc.toArray⟩).run P w = .ok ⟨(acc ++ l).toArray⟩ w
  | [], i, acc, _ => by simp [Extern.Bytes.loadBytes]
  | x :: l, i, acc, h => by
    have h0 := h 0 x rfl
    have ih := run_loadBytes w b off l (i + 1) (acc ++ [x]) (fun j y hy => by
      have := h (j + 1) y (by simpa using hy)
      rwa [show off + i + (j + 1) = off + (i + 1) + j by omega] at this)
    have hadd : (⟨b, off + i, none⟩ : Addr).add 1 = ⟨b, off + (i + 1), none⟩ := by rw [addr_add]; rfl
    have hx : ((x.toNat : Int).toNat).toUInt8 = x := by simp
    simp only [List.length_cons, Extern.Bytes.loadBytes, Sem.run_bind]
    rw [show off + i + 0 = off + i from rfl] at h0
    simp only [run_load, h0, Result.andThen, hadd, hx]
    rw [show (ByteArray.push ⟨acc.toArray⟩ x) = ⟨(acc ++ [x]).toArray⟩ by simp [ByteArray.push]]
    rw [ih]
    simp
theorem run_bytesOf (w : World) (b off c : Nat) (l : List UInt8) (h : ∀ j x, l[j]? = some x → w.cell? ⟨b, off + j, none⟩ = some (.int .u8 x.toNat)) :
    (Extern.Bytes.bytesOf (.slice (some ⟨b, off, none⟩) l.length c)).run P w = .ok ⟨l.toArray⟩ w := by
  have := run_loadBytes (P := P) w b off l 0 [] (by simpa using h)
  simp only [Nat.add_zero, List.nil_append] at this
  exact this

set_option maxHeartbeats 1000000 in
theorem Compare_any (w : World) (b1 o1 c1 b2 o2 c2 : Nat) (x y : List UInt8) (hx : ∀ j u, x[j]? = some u → w.cell? ⟨b1, o1 + j, none⟩ = some (.int .u8 u.toNat)) (hy : ∀ j u, y[j]? = some u → w.cell? ⟨b2, o2 + j, none⟩ = some (.int .u8 u.toNat)) :
    Calls Tryz.prog 30 #[.slice (some ⟨b1, o1, none⟩) x.length c1, .slice (some ⟨b2, o2, none⟩) y.length c2] w fun e w' => e = .returned (.int .i64 (Lib.compareBytes x y)) ∧ w' = w := by
  have hx' := run_bytesOf (P := Tryz.prog) w b1 o1 c1 x hx
  have hy' := run_bytesOf (P := Tryz.prog) w b2 o2 c2 y hy
  have hrun : (callFunc 61 #[.slice (some ⟨b1, o1, none⟩) x.length c1, .slice (some ⟨b2, o2, none⟩) y.length c2]).run Tryz.prog w = .ok (.value (.int .i64 (Lib.compareBytes x y))) w := by
    rw [run_callFunc_extern Tryz.func61 (by kernel_rfl) (by kernel_rfl) (by kernel_rfl) (e := Extern.BytealgCompare.compare) (by kernel_rfl)]
    change (Sem.run Tryz.prog (do pure (goInt (Extern.BytealgCompare.cmp (← Extern.Bytes.bytesOf (.slice (some ⟨b1, o1, none⟩) x.length c1)) (← Extern.Bytes.bytesOf (.slice (some ⟨b2, o2, none⟩) y.length c2))))) w).andThen _ = _
    simp only [Sem.run_bind, hx', hy', Result.andThen, Sem.run_pure, Lib.cmp_eq]
    rfl
  clear hx hy hx' hy'
  go_enter Tryz.func30, Tryz.ntmps30
  go_wp2
  go_ret
  exact ⟨rfl, rfl⟩

/-- The cells of a digest, as bytes. -/
theorem Dig.byte (d : Dig) {j : Nat} {x : UInt8} (h : d.1[j]? = some x) : d.cells[j]? = some (.int .u8 x.toNat) := by
  simp [Dig.cells, h]
def cmpDig (x y : Dig) : Int := Lib.compareBytes x.1 y.1

set_option maxHeartbeats 1000000 in
theorem compare_any (w : World) (x y : Dig) :
    Calls Tryz.prog 15 #[x.val, y.val] w fun e w' => e = .returned (.int .i64 (cmpDig x y)) ∧ ∃ q, w' = ((w.alloc (.cells x.cells.toArray 25)).alloc (.cells y.cells.toArray 25)).drewN q := by
  have hc : ∀ n, Calls Tryz.prog 30 #[.slice (some ⟨w.heap.size, 0, none⟩) 16 16, .slice (some ⟨w.heap.size + 1, 0, none⟩) 16 16] (((w.alloc (.cells x.cells.toArray 25)).alloc (.cells y.cells.toArray 25)).drewN n)
      fun e w' => e = .returned (.int .i64 (cmpDig x y)) ∧ w' = ((w.alloc (.cells x.cells.toArray 25)).alloc (.cells y.cells.toArray 25)).drewN n := by
    intro n
    have := Compare_any (((w.alloc (.cells x.cells.toArray 25)).alloc (.cells y.cells.toArray 25)).drewN n) w.heap.size 0 16 (w.heap.size + 1) 0 16 x.1 y.1
      (fun j u hj => by
        rw [World.cell?_drewN, Nat.zero_add]
        have h := x.byte hj
        simp only [World.cell?, World.alloc, Array.getElem?_push]
        rw [if_neg (by simp), if_pos (by simp)]
        simpa using h)
      (fun j u hj => by
        rw [World.cell?_drewN, Nat.zero_add]
        have h := y.byte hj
        simp only [World.cell?, World.alloc, Array.getElem?_push]
        rw [if_pos (by simp)]
        simpa using h)
    rw [x.2, y.2] at this
    exact this
  unfold Dig.val
  go_enter Tryz.func15, Tryz.ntmps15
  go_wp2
  go_quiet ((go_at_call 30; exact Calls.quiet_of_same (hc _)))
  go_wp2
  go_ret
  exact ⟨rfl, _, rfl⟩
#print axioms compare_any
end Go.Proofs.Bc
