/-
  The hash of three bytes, reckoned by the kernel. No program in sight.
  One cell of an array value. No program's walk in sight.
  The walk of layer 2's awake.
-/
import Derived.Test.YtcifnfffoiiceaaDoorHashN
import Derived.Test.YtcifnfffoiiceaaDoorCells
import Derived.Laws.Entries
import Derived.Test.YtcifnfffoiiceaaDoorHSum
namespace Go.Proofs.YtcifnfffoiiceaaDoor
section
open Go.RowKit
set_option linter.unusedVariables false
theorem abc32 : ((sumN 32 [97, 98, 99])[0]?, (sumN 32 [97, 98, 99])[31]?) = (some 186, some 173) := by kernel_rfl
theorem abc1 : (sumN 1 [97, 98, 99])[1]? = some 0 := by kernel_rfl
end

section
open Go.RowKit
set_option linter.unusedVariables false

theorem run_index_h (w : World) (cs : Array Value) (i : Int) (k : Nat) (hi : i = (k : Int)) (hk : k < 32) (v : Value) (h : cs[k]? = some v) : (Instr.index 23 (.agg cs) (.int .i64 i)).run Tryd.prog w = .ok v w := by
  obtain ⟨i0, hi0, hz0, hz1, hz2⟩ := info_parts info_u8
  subst hi
  have hu := run_underlying Tryd.underlying23 w
  have hs : (sizeOf 5).run Tryd.prog w = .ok 1 w := by simp [sizeOf, typeInfo, hi0, hz1]
  unfold Instr.index
  simp [Sem.run_bind, asIntOf, hu, hs, part, h, hk]
theorem index_run {a : Act} {w : World} {x : Nat} {d : Option Nat} {ty : TypeId} {ps : String} {af : Array Edge} {gd : Option (Nat × Bool)} {cs : Array Value} {i : Int} (k : Nat) (hi : i = (k : Int)) (hk : k < 32) {v : Value} (hx : a.eval (.tmp x) = .agg cs) (h : cs[k]? = some v) :
    (execOp a.eval ⟨d, .index 23 (.tmp x) (.const (.int .i64 i)), ty, ps, af, gd⟩).run Tryd.prog w = .ok (.value v) w := by
  have h1 := run_index_h w cs i k hi hk v h
  have h2 : a.eval (.const (.int .i64 i)) = .int .i64 i := rfl
  unfold execOp
  simp only [hx, h2, Sem.run_bind]
  rw [h1]
  rfl
theorem read_wanted {P : Program} {ops : Array Oper} {rest : List Oper} {o : Oper} {a : Act} {w : World} {Q : Exit → Act → World → Prop} (hw : Region.wanted o (yielded ops a.tmps) = true) (dst : Option Tmp) (hdst : o.dst = dst) (v : Value)
    (hrun : (execOp a.eval o).run P w = .ok (.value v) w) (h : wpList P ops Q rest (a.put dst v) w) : wpList P ops Q (o :: rest) a w := by
  subst hdst
  refine wpList_step fun K hK => ?_
  rw [if_pos hw]
  unfold Oper.wp
  rw [hrun, Oper.upon_value]
  exact hK _ _ h
end

section
open Go.RowKit
set_option linter.unusedVariables false
set_option pp.deepTerms true
set_option pp.maxSteps 1000000

def abcW (w : World) : World := (w.alloc (.cells #[.int .u8 97, .int .u8 98, .int .u8 99] 5 (0, 0))).alloc (.cells #[.slice (some ⟨w.heap.size, 0, none⟩) 3 3] 29 (0, 0))
theorem abc_below (w : World) : Below w.heap.size w (abcW w) := ((Below.refl _ _).alloc (Nat.le_refl _) _).alloc (by simp) _
theorem abc_size (w : World) : (abcW w).heap.size = w.heap.size + 2 := by simp [abcW]
theorem abc_parts (w : World) : PartsAt (abcW w) (.slice (some ⟨w.heap.size + 1, 0, none⟩) 1 1) [.slice (some ⟨w.heap.size, 0, none⟩) 3 3] [[97, 98, 99]] := by
  have h1 : (abcW w).heap[w.heap.size]? = some (.cells (cellsOf' u8c [97, 98, 99]) 5 (0, 0)) := by
    unfold abcW
    rw [Below.heap_alloc _ _ _ (by simp), heap_alloc_new]
    rfl
  have e : (w.alloc (.cells #[.int .u8 97, .int .u8 98, .int .u8 99] 5 (0, 0))).heap.size = w.heap.size + 1 := by simp
  have h2 : (abcW w).heap[w.heap.size + 1]? = some (.cells #[.slice (some ⟨w.heap.size, 0, none⟩) 3 3] 29 (0, 0)) := by
    unfold abcW
    rw [← e, heap_alloc_new]
  refine ⟨⟨_, _, rfl, Nat.le_refl _, by show 1 ≤ maxLen; decide, (fun e => by cases e), .inr ⟨w.heap.size + 1, 0, rfl, fun j x hj => ?_⟩⟩, rfl, fun i x L hx hL => ?_⟩
  · rw [cell_of_row _ _ _ _ _ _ h2]
    match j, hj with
    | 0, hj => cases hj; rfl
    | j + 1, hj => cases hj
  · match i, hx, hL with
    | 0, hx, hL =>
      cases hx
      cases hL
      exact ⟨co_slice (l := [97, 98, 99]) h1 (by show 3 ≤ maxLen; decide), fun b hb => by cases hb; rw [abc_size]; show w.heap.size < _; omega⟩
    | i + 1, hx, hL => cases hx
theorem abc_bytes : ∀ L ∈ ([[97, 98, 99]] : List (List Nat)), Bytes L := by
  intro L hL
  rw [List.mem_singleton] at hL
  subst hL
  unfold Bytes
  decide
theorem abc_flat : ([[97, 98, 99]] : List (List Nat)).flatten = [97, 98, 99] := rfl
set_option maxHeartbeats 1000000 in
theorem awake2_any {W : World} (D : DoorAt W) : Calls Tryd.prog 14 #[] W fun e w' => e = .returned (.bool true) ∧ Below W.heap.size W w' := by
  have HD := Lib.hid D
  have S32 : ∀ w, DoorAt w → Calls Tryd.prog 17 #[.int .i64 32, .slice (some ⟨w.heap.size + 1, 0, none⟩) 1 1] (abcW w) fun e w' => e = .returned (.agg (cellsOf' u8c (sumN 32 [97, 98, 99]))) ∧ Below (abcW w).heap.size (abcW w) w' := fun w h => hashSum_any (abc_parts w) abc_bytes (h.below (abc_below w)) (by decide) (by show 1 ≤ 4611686018427387904; decide)
  have S1 : ∀ w, DoorAt w → Calls Tryd.prog 17 #[.int .i64 1, .slice (some ⟨w.heap.size + 1, 0, none⟩) 1 1] (abcW w) fun e w' => e = .returned (.agg (cellsOf' u8c (sumN 1 [97, 98, 99]))) ∧ Below (abcW w).heap.size (abcW w) w' := fun w h => hashSum_any (abc_parts w) abc_bytes (h.below (abc_below w)) (by decide) (by show 1 ≤ 4611686018427387904; decide)
  have A0 : (sumN 32 [97, 98, 99])[0]? = some 186 := congrArg Prod.fst abc32
  have A31 : (sumN 32 [97, 98, 99])[31]? = some 173 := congrArg Prod.snd abc32
  have A1 := abc1
  have L32 := sum_len 32 [97, 98, 99]
  have L1 := sum_len 1 [97, 98, 99]
  generalize sumN 32 [97, 98, 99] = Z at *
  generalize sumN 1 [97, 98, 99] = Y at *
  have HS := Lib.hid (And.intro S32 S1)
  have HA := Lib.hid (And.intro A0 (And.intro A31 A1))
  have HL := Lib.hid (And.intro L32 L1)
  clear D S32 S1 A0 A31 A1 L32 L1
  go_enter Tryd.func14, Tryd.ntmps14
  go_wp2_with fail
  refine (HS.out.1 _ HD.out).mono ?_
  rintro e w3 ⟨rfl, q3⟩
  have D3 : DoorAt w3 := (HD.out.below (abc_below W)).below q3
  have b3 : Below W.heap.size W w3 := (abc_below W).trans (q3.mono (by rw [abc_size]; omega))
  have h2 := HD.out.1
  obtain ⟨A0, A31, A1⟩ := HA.out
  have C1 := co_get (mk := u8c) A1
  have hY : (cellsOf' u8c Y).size = 32 := by rw [co_size, HL.out.2]
  unfold u8c at C1
  clear q3
  go_wp2_with (first | (refine wpList_store_row rfl 23 _ _ rfl w3.heap.size (cellsOf' u8c Z) rfl rfl 23 _ (heap_alloc_new _ _) (hc_all HL.out.1) (hold32 HL.out.1) (co_one u8c_one) ?_; rw [setRow_alloc]; have b4 : Below W.heap.size W (w3.alloc (.cells (cellsOf' u8c Z) 23 (0, 0))) := b3.alloc b3.size _; have D4 := HD.out.low h2 b4; have h4 := heap_alloc_new w3 (.cells (cellsOf' u8c Z) 23 (0, 0)); generalize hw4 : w3.alloc (.cells (cellsOf' u8c Z) 23 (0, 0)) = w4 at *; have k0 := co_cell h4 A0; have k31 := co_cell h4 A31; unfold u8c at k0 k31; have H4 := Lib.hid h4; have HD4 := Lib.hid D4; have HB4 := Lib.hid b4; clear h4 hw4 D4 b4))
  refine (HS.out.2 _ HD4.out).mono ?_
  rintro e w5 ⟨rfl, q5⟩
  have b5 : Below W.heap.size W w5 := HB4.out.trans (((abc_below w4).trans (q5.mono (by rw [abc_size]; omega))).mono HB4.out.size)
  clear q5 k0 k31 hY
  go_wp2_with (refine read_wanted (by rfl) _ rfl _ (index_run 1 rfl (by decide) rfl C1) ?_)
  go_ret
  exact ⟨rfl, b5⟩
end
end Go.Proofs.YtcifnfffoiiceaaDoor
