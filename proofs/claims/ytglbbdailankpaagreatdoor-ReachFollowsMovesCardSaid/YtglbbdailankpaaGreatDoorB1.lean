/- Equality of two digests, as the translated program reckons it. -/
import Derived.Test.YtglbbdailankpaaGreatDoorProg
import Derived.Test.YtglbbdailankpaaGreatDoorB0
import Derived.DeepKeys
import Derived.Laws.StructEq
import Derived.KernelRfl
namespace Go.Proofs.Bc
open Go Go.RowKit
theorem cellsDig : Tryz.prog.cellsOf 25 = 16 := by kernel_rfl
theorem cellsByte : Tryz.prog.cellsOf 5 = 1 := by kernel_rfl
theorem keyLits_byte (b : UInt8) : Tryz.prog.keyLits 2 5 [.int .u8 b.toNat] = some [Lit.int .u8 b.toNat] := by
  have := b.toNat_lt
  simp only [Program.keyLits, Tryz.underlying5]
  rw [if_pos]
  refine ⟨trivial, ?_⟩
  simp only [Lit.wf, Bool.and_eq_true, decide_eq_true_eq]
  have h1 : IntKind.u8.min = 0 := rfl
  have h2 : IntKind.u8.max = 255 := rfl
  omega
theorem mapM_get (l : List UInt8) : ∀ (n : Nat), n ≤ l.length → (List.range n).mapM (fun i => Tryz.prog.keyLits 2 5 (((l.map fun b => Value.int .u8 b.toNat).drop (i * 1)).take 1)) = some ((l.take n).map fun b => [Lit.int .u8 b.toNat]) := by
  intro n
  induction n with
  | zero => intro _; simp
  | succ n ih =>
    intro h
    rw [List.range_succ, List.mapM_append, ih (by omega)]
    have e : ((l.map fun b => Value.int .u8 b.toNat).drop (n * 1)).take 1 = [.int .u8 (l[n]'(by omega)).toNat] := by
      rw [Nat.mul_one, List.drop_eq_getElem_cons (by simpa using (by omega : n < l.length))]
      simp
    rw [List.take_succ_eq_append_getElem (show n < l.length by omega), List.map_append]
    simp only [List.mapM_cons, List.mapM_nil, e, keyLits_byte, Option.pure_def, Option.bind_eq_bind, Option.bind_some, List.map_cons, List.map_nil]
set_option maxRecDepth 100000 in
theorem keyLits_dig (d : Dig) : Tryz.prog.keyLits 3 25 d.cells = some (d.1.map fun b => Lit.int .u8 b.toNat) := by
  have hl := d.cells_length
  have hm := mapM_get d.1 16 (by rw [d.2]; exact Nat.le_refl _)
  unfold Program.keyLits
  simp only [Tryz.underlying25]
  rw [cellsDig, cellsByte]
  split
  · rw [show d.cells = d.1.map fun b => Value.int .u8 b.toNat from rfl, hm]
    simp only [Option.map_some]
    rw [List.take_of_length_le (by rw [d.2]; exact Nat.le_refl _)]
    congr 1
    generalize d.1 = l
    induction l with
    | nil => rfl
    | cons a l ih => simp only [List.map_cons, List.flatten_cons, ih]; rfl
  · rename_i h; exact absurd hl h
theorem keyTypeDig : Tryz.prog.keyTypeAt 2 25 = true := by kernel_rfl
set_option maxRecDepth 100000 in
theorem run_eql_dig (x y : Dig) (w : World) : (binOp .eql 25 x.val y.val).run Tryz.prog w = .ok (.bool (decide (x = y))) w := by
  have h := run_equalIn_deep (P := Tryz.prog) 9998 2 25 keyTypeDig w 3 3 x.val y.val _ _ (by simp [Dig.val, Value.formed, Tryz.underlying25, cellsDig, Dig.cells, x.2]) (by simp [Dig.val, Value.formed, Tryz.underlying25, cellsDig, Dig.cells, y.2]) (keyLits_dig x) (keyLits_dig y)
  obtain ⟨r, hr, hiff⟩ := h
  have he : r = decide (x = y) := by
    rw [Bool.eq_iff_iff, hiff, decide_eq_true_eq]
    constructor
    · intro h
      apply Subtype.ext
      have inj : ∀ (a b : List UInt8), (a.map fun b => Lit.int .u8 (b.toNat : Int)) = (b.map fun b => Lit.int .u8 (b.toNat : Int)) → a = b := by
        intro a
        induction a with
        | nil => intro b h; cases b <;> simp_all
        | cons u a ih =>
          intro b h
          cases b with
          | nil => simp at h
          | cons v b =>
            simp only [List.map_cons, List.cons.injEq, Lit.int.injEq, true_and] at h
            rw [ih b h.2]
            congr 1
            exact UInt8.toNat_inj.1 (by omega)
      exact inj _ _ h
    · rintro rfl; rfl
  subst he
  unfold Dig.val at *
  have hr' : (Op.equalIn 10000 25 (.agg x.cells.toArray) (.agg y.cells.toArray)).run Tryz.prog w = .ok (decide (x = y)) w := hr
  rw [run_eql_struct, hr']
  rfl
theorem run_neq_dig (x y : Dig) (w : World) : (binOp .neq 25 x.val y.val).run Tryz.prog w = .ok (.bool (!decide (x = y))) w := by
  have h := run_eql_dig x y w
  unfold Dig.val at *
  rw [run_eql_struct] at h
  rw [run_neq_struct]
  cases hq : (Op.equalIn 10000 25 (.agg x.cells.toArray) (.agg y.cells.toArray)).run Tryz.prog w with
  | ok b w' =>
    rw [hq] at h
    simp only [Result.andThen, Result.ok.injEq, Value.bool.injEq] at h ⊢
    exact ⟨by rw [h.1], h.2⟩
  | halt e w' => rw [hq] at h; simp [Result.andThen] at h
end Go.Proofs.Bc
