/-
  '==' of two arrays of bytes. No program's walk in sight.
-/
import Derived.Test.YtcifnfffoiiceaaDoorCells
import Derived.DeepKeys
import Derived.Laws.StructEq
namespace Go.Proofs.YtcifnfffoiiceaaDoor
open Go.RowKit
set_option linter.unusedVariables false

theorem plain_u8 : Tryd.prog.plainKey 5 = true := by kernel_rfl
theorem cells_u8 : Tryd.prog.cellsOf 5 = 1 := by kernel_rfl
theorem guard_h : Tryd.prog.eqGuardType Tryd.prog.depth 23 = false := by kernel_rfl
theorem guard_b : Tryd.prog.eqGuardType Tryd.prog.depth 24 = false := by kernel_rfl
theorem run_items (w : World) (x y : List Nat) : ∀ is : List Nat, (∀ i ∈ is, i < x.length ∧ i < y.length) →
    (Op.eqItems 9999 5 1 (cellsOf' u8c x) (cellsOf' u8c y) is).run Tryd.prog w = .ok (is.all fun i => x[i]? == y[i]?) w
  | [], _ => by simp [Op.eqItems]
  | i :: is, h => by
    obtain ⟨h1, h2⟩ := h i (by simp)
    have p1 := run_part_plain (P := Tryd.prog) w plain_u8 (xs := cellsOf' u8c x) (off := i * 1) (by rw [Nat.mul_one]; exact co_get (List.getElem?_eq_getElem h1))
    have p2 := run_part_plain (P := Tryd.prog) w plain_u8 (xs := cellsOf' u8c y) (off := i * 1) (by rw [Nat.mul_one]; exact co_get (List.getElem?_eq_getElem h2))
    have e : (Op.equalIn 9999 5 (u8c x[i]) (u8c y[i])).run Tryd.prog w = .ok (decide (x[i] = y[i])) w := by
      have := run_equalIn_int (P := Tryd.prog) w 9998 5 .u8 .u8 (x[i] : Int) (y[i] : Int) Tryd.underlying5
      unfold u8c
      rw [this]
      congr 1
      rw [Bool.eq_iff_iff]
      simp
      omega
    have ih := run_items w x y is fun j hj => h j (by simp [hj])
    simp only [Op.eqItems, Sem.run_bind, p1, p2, e, Result.andThen_ok]
    rw [List.all_cons, List.getElem?_eq_getElem h1, List.getElem?_eq_getElem h2]
    by_cases hc : x[i] = y[i]
    · simp [hc, ih]
    · simp [hc]
theorem all_eq {x y : List Nat} {n : Nat} (hx : x.length = n) (hy : y.length = n) : ((List.range n).all fun i => x[i]? == y[i]?) = decide (x = y) := by
  rw [Bool.eq_iff_iff]
  simp only [List.all_eq_true, List.mem_range, beq_iff_eq, decide_eq_true_eq]
  constructor
  · intro h
    apply List.ext_getElem?
    intro i
    by_cases hi : i < n
    · exact h i hi
    · rw [List.getElem?_eq_none (by omega), List.getElem?_eq_none (by omega)]
  · rintro rfl i _
    rfl
theorem run_eql_h (w : World) {x y : List Nat} (hx : x.length = 32) (hy : y.length = 32) :
    (Op.equalIn 10000 23 (.agg (cellsOf' u8c x)) (.agg (cellsOf' u8c y))).run Tryd.prog w = .ok (decide (x = y)) w := by
  obtain ⟨i0, hi, hz0, hz1, hz2⟩ := info_parts info_u8
  rw [run_equalIn_array w 9999 _ _ Tryd.underlying23 hi, cells_u8, run_items w x y _ (fun i hi => by rw [List.mem_range] at hi; omega), all_eq hx hy]
theorem run_eql_b (w : World) {x y : List Nat} (hx : x.length = 64) (hy : y.length = 64) :
    (Op.equalIn 10000 24 (.agg (cellsOf' u8c x)) (.agg (cellsOf' u8c y))).run Tryd.prog w = .ok (decide (x = y)) w := by
  obtain ⟨i0, hi, hz0, hz1, hz2⟩ := info_parts info_u8
  rw [run_equalIn_array w 9999 _ _ Tryd.underlying24 hi, cells_u8, run_items w x y _ (fun i hi => by rw [List.mem_range] at hi; omega), all_eq hx hy]
end Go.Proofs.YtcifnfffoiiceaaDoor
