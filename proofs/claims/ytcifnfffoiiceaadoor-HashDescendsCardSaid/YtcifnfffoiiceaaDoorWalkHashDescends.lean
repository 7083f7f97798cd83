/-
  The walk of HashDescends.
-/
import Derived.Test.YtcifnfffoiiceaaDoorRefDescend
import Derived.Test.YtcifnfffoiiceaaDoorAwake2
namespace Go.Proofs.YtcifnfffoiiceaaDoor
open Go.RowKit
set_option linter.unusedVariables false
set_option pp.deepTerms true
set_option pp.maxSteps 1000000

theorem desc_len' (wd : Int) (a b : List Nat) (ha : a.length ≤ 1000000) (hb : b.length ≤ 1000000) : (descN wd a b).1.length = 192 := by
  by_cases h : a = b ∨ sumN wd a ≠ sumN wd b
  · rw [desc_off h]; exact zero_len
  · obtain ⟨i, hi, e, _, _⟩ := desc_law ha hb h
    rw [e]
    unfold stepN
    have hca : i < countN a := by unfold leastN at hi; omega
    have hcb : i < countN b := by unfold leastN at hi; omega
    simp only [List.length_append, st_len', bk_len hca, bk_len hcb]
set_option maxRecDepth 16000 in
set_option maxHeartbeats 40000000 in
theorem walkHashDescends (w : World) (D : DoorAt w) {wd : Int} {va vb : Value} {a b : List Nat} (w0 : (Lit.int .i64 wd).wf = true) (sA : SliceOf u8c w va a) (bA : Bytes a) (lA : a.length ≤ 140737488351232) (sB : SliceOf u8c w vb b) (bB : Bytes b) (lB : b.length ≤ 140737488351232) :
    Calls Tryd.prog 10 #[.int .i64 wd, va, vb] w fun e w' => e = .returned (.bool true) ∧ Below w.heap.size w w' := by
  have SA := Lib.hid (And.intro sA bA)
  have SB := Lib.hid (And.intro sB bB)
  have HD := Lib.hid D
  have hb1 := D.1
  obtain ⟨aA, cA, rfl, _⟩ := sA
  obtain ⟨aB, cB, rfl, _⟩ := sB
  clear D w0 lA lB bA bB
  by_cases hl : 3000 < a.length
  · have hli : decide ((3000 : Int) < (a.length : Int)) = true := decide_eq_true (by omega)
    go_enter Tryd.func10, Tryd.ntmps10
    go_wp2
    go_ret
    exact ⟨rfl, Below.refl _ _⟩
  · have hli : decide ((3000 : Int) < (a.length : Int)) = false := decide_eq_false (by omega)
    by_cases hk : 3000 < b.length
    · have hki : decide ((3000 : Int) < (b.length : Int)) = true := decide_eq_true (by omega)
      go_enter Tryd.func10, Tryd.ntmps10
      go_wp2
      go_ret
      exact ⟨rfl, Below.refl _ _⟩
    · have hki : decide ((3000 : Int) < (b.length : Int)) = false := decide_eq_false (by omega)
      have HL : Hid (a.length ≤ 3000 ∧ b.length ≤ 3000) := Lib.hid ⟨by omega, by omega⟩
      clear hl hk
      obtain ⟨Z, hZ⟩ : ∃ Z, w.heap.size = Z := ⟨_, rfl⟩
      have HZ := Lib.hid hZ
      have R1 := Lib.hid (row2_any w SA.out.1 (by have := HL.out; omega))
      rw [hZ] at hb1
      obtain ⟨X, ok, hdesc⟩ : ∃ X ok, descN wd a b = (X, ok) := ⟨_, _, rfl⟩
      have lX : X.length = 192 := by have := desc_len' wd a b (by have := HL.out; omega) (by have := HL.out; omega); rw [hdesc] at this; exact this
      have HDE := Lib.hid hdesc
      have cX : (cellsOf' u8c X).size = 192 := by rw [co_size, lX]
      have ZC : Hid ((Tryd.zeroCells59).size = 192) := Lib.hid (by kernel_rfl)
      clear hZ hdesc
      go_enter Tryd.func10, Tryd.ntmps10
      go_wp2_with fail
      refine R1.out.mono ?_
      rintro e w1 ⟨v1, rfl, r1, q1⟩
      have b1 : Below Z w w1 := by rw [← HZ.out]; exact q1
      have z1 : Z ≤ w1.heap.size := by have := q1.size; have := HZ.out; omega
      have R2 := Lib.hid (row2_any w1 (SB.out.1.below (by rw [HZ.out]; exact b1)) (by have := HL.out; omega))
      have HR1 := Lib.hid r1
      clear r1 q1
      go_wp2_with fail
      refine R2.out.mono ?_
      rintro e w2 ⟨v2, rfl, r2, q2⟩
      have b2 := b1.trans (q2.mono z1)
      have z2 : Z ≤ w2.heap.size := Nat.le_trans z1 q2.size
      have DD := Descend_any (wd := wd) w2 (HD.out.low hb1 b2) (HR1.out.below q2).slice r2.slice (fun g hg => (((HR1.out.below q2).block g hg).2)) (fun g hg => (r2.block g hg).2) SA.out.2 SB.out.2 (by have := HL.out; omega) (by have := HL.out; omega)
      rw [HDE.out] at DD
      have HDD := Lib.hid DD
      have HR2 := Lib.hid r2
      have HR1b := Lib.hid (HR1.out.below q2)
      clear DD r2 q2 R1 R2 HR1
      go_wp2_with fail
      refine HDD.out.mono ?_
      rintro e w3 ⟨rfl, q3⟩
      have b3 := b2.trans (q3.mono z2)
      have z3 : Z ≤ w3.heap.size := Nat.le_trans z2 q3.size
      have HR2b := Lib.hid (HR2.out.below q3)
      have HR1c := Lib.hid (HR1b.out.below q3)
      clear q3 HDD HR2 HR1b
      go_wp2_with (first
        | (with_reducible refine wpList_store_rowN rfl rfl 59 (.tmp 9) (.tmp 30) rfl w3.heap.size (cellsOf' u8c X) (by kernel_rfl) (by kernel_rfl) 59 _ (heap_alloc_new _ _) (by rw [cX]; exact size_st) (by rw [cX, ZC.out]) (co_one u8c_one) ?_))
      obtain ⟨xb, hxb⟩ : ∃ x, w3.heap.size = x := ⟨_, rfl⟩
      generalize hw4 : World.setRow _ _ _ = w4
      have G4 : w4.heap[xb]? = some (.cells (cellsOf' u8c X) 59 (0, 0)) := by rw [← hw4, ← hxb]; exact setRow_heap _ _ _ _ _ _ (heap_alloc_new _ _)
      have B4 : Below Z w w4 := by rw [← hw4]; exact below_setRow (b3.alloc z3 _) z3 _
      have Z4 : w4.heap.size = xb + 1 := by rw [← hw4, ← hxb]; simp
      have q34 : Below w3.heap.size w3 w4 := by rw [← hw4]; exact below_setRow ((Below.refl _ _).alloc (Nat.le_refl _) _) (Nat.le_refl _) _
      have HR2 := Lib.hid (HR2b.out.below q34)
      have HR1 := Lib.hid (HR1c.out.below q34)
      rw [hxb]
      have RD := refDescend_any (wd := wd) w4 (SA.out.1.below (by rw [HZ.out]; exact B4)) (SB.out.1.below (by rw [HZ.out]; exact B4)) SA.out.2 SB.out.2 (by have := HL.out; omega) (by have := HL.out; omega)
      rw [HDE.out] at RD
      have HRD := Lib.hid RD
      have z4 : Z ≤ w4.heap.size := by have := B4.size; have := HZ.out; omega
      have GX := Lib.hid G4
      have BX := Lib.hid B4
      have xl4 : xb < w4.heap.size := by omega
      clear RD hw4 G4 B4 b3 b2 b1 z1 z2 z3 hxb q34 HR2b HR1c
      go_wp2_with fail
      refine HRD.out.mono ?_
      rintro e w5 ⟨rfl, q5⟩
      have b5 := BX.out.trans (q5.mono z4)
      have G5 := (q5.block xb xl4).trans GX.out
      have xl5 : xb < w5.heap.size := Nat.lt_of_lt_of_le xl4 q5.size
      have z5 : Z ≤ w5.heap.size := Nat.le_trans z4 q5.size
      have HR2' := Lib.hid (HR2.out.below q5)
      have HR1' := Lib.hid (HR1.out.below q5)
      clear q5 HRD HR2 HR1
      obtain ⟨w6, hw6⟩ : ∃ w6, (w5.alloc (.cells Tryd.zeroCells59 59 (0, 0))).setRow w5.heap.size (cellsOf' u8c X) = w6 := ⟨_, rfl⟩
      have GY : w6.heap[w5.heap.size]? = some (.cells (cellsOf' u8c X) 59 (0, 0)) := by rw [← hw6]; exact setRow_heap _ _ _ _ _ _ (heap_alloc_new _ _)
      have GX6 : w6.heap[xb]? = some (.cells (cellsOf' u8c X) 59 (0, 0)) := by rw [← hw6, setRow_other _ _ _ _ (by omega), Below.heap_alloc _ _ _ xl5]; exact G5
      have q56 : Below w5.heap.size w5 w6 := by rw [← hw6]; exact below_setRow ((Below.refl _ _).alloc (Nat.le_refl _) _) (Nat.le_refl _) _
      have b6 := b5.trans (q56.mono z5)
      have z6 : Z ≤ w6.heap.size := Nat.le_trans z5 q56.size
      have RX := Lib.hid (box_range' GX6)
      have RY := Lib.hid (box_range' GY)
      have zX : (Tryd.prog.info? 59).map (·.size) = some (X.map u8c).length := by rw [List.length_map, lX]; exact size_st
      have HR2 := Lib.hid (HR2'.out.below q56)
      have HR1 := Lib.hid (HR1'.out.below q56)
      have HW6 := Lib.hid hw6
      have M1 := Lib.hid (same2_any w6 HR1.out.slice (SA.out.1.below (by rw [HZ.out]; exact b6)))
      have e1 : decide (a = a) = true := decide_eq_true rfl
      rw [e1] at M1
      clear hw6 GY GX6 q56 HR2' HR1' G5 b5
      go_wp2_with (first
        | (with_reducible refine wpList_store_rowN rfl rfl 59 (.tmp 11) (.tmp 37) rfl w5.heap.size (cellsOf' u8c X) (by kernel_rfl) (by kernel_rfl) 59 _ (heap_alloc_new _ _) (by rw [cX]; exact size_st) (by rw [cX, ZC.out]) (co_one u8c_one) ?_; rw [HW6.out])
        | (with_reducible refine wpList_yields (S := fun w' => w' = w6) (v := .agg (X.map u8c).toArray) ?hy rfl ?_; case hy => exact yieldsIf_load_mid (by kernel_rfl) 59 (.tmp 9) rfl xb 0 (by kernel_rfl) (X.map u8c) _ (fun w h => by rw [h]; exact RX.out) Tryd.underlying59 rfl zX)
        | (with_reducible refine wpList_yields (S := fun w' => w' = w6) (v := .agg (X.map u8c).toArray) ?hy rfl ?_; case hy => exact yieldsIf_load_mid (by kernel_rfl) 59 (.tmp 11) rfl w5.heap.size 0 (by kernel_rfl) (X.map u8c) _ (fun w h => by rw [h]; exact RY.out) Tryd.underlying59 rfl zX)
        | (with_reducible refine wpList_yields (S := fun _ => True) (v := .bool true) (yields_eqA (by kernel_rfl) rfl (X := cellsOf' u8c X) (Y := cellsOf' u8c X) (by kernel_rfl) (by kernel_rfl) guard_st (fun w => run_eql_st w lX)) trivial ?_))
      refine M1.out.mono ?_
      rintro e w7 ⟨rfl, q7⟩
      have b7 := b6.trans (q7.mono z6)
      have z7 : Z ≤ w7.heap.size := Nat.le_trans z6 q7.size
      have K1 := Lib.hid (marked_any (HR1.out.below q7) (by have := HL.out; omega))
      have HR2' := Lib.hid (HR2.out.below q7)
      clear q7 M1
      go_wp2_with fail
      refine K1.out.mono ?_
      rintro e w8 ⟨rfl, rfl⟩
      have M2 := same2_any w8 HR2'.out.slice (SB.out.1.below (by rw [HZ.out]; exact b7))
      rw [show decide (b = b) = true from decide_eq_true rfl] at M2
      have HM2 := Lib.hid M2
      clear K1 M2
      go_wp2_with fail
      refine HM2.out.mono ?_
      rintro e w9 ⟨rfl, q9⟩
      have b9 := b7.trans (q9.mono z7)
      have z9 : Z ≤ w9.heap.size := Nat.le_trans z7 q9.size
      have K2 := Lib.hid (marked_any (HR2'.out.below q9) (by have := HL.out; omega))
      clear q9 HM2
      go_wp2_with fail
      refine K2.out.mono ?_
      rintro e w10 ⟨rfl, rfl⟩
      have AW := Lib.hid (awake2_any (HD.out.low hb1 b9))
      clear K2
      go_wp2_with fail
      refine AW.out.mono ?_
      rintro e w11 ⟨rfl, q11⟩
      go_wp2_with fail
      go_ret
      exact ⟨rfl, by rw [HZ.out]; exact b9.trans (q11.mono z9)⟩
end Go.Proofs.YtcifnfffoiiceaaDoor
