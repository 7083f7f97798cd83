/-
  The walk of bytes.Equal.
  The walk of hash.Descend.
-/
import Derived.Test.YtcifnfffoiiceaaDoorRow2
import Derived.Laws.BytesArg
import Derived.Laws.Strings
import Derived.Deep.Draws
import Derived.Test.YtcifnfffoiiceaaDoorInputs
import Derived.Test.YtcifnfffoiiceaaDoorTextN
import Derived.Test.YtcifnfffoiiceaaDoorSteps
import Derived.Test.YtcifnfffoiiceaaDoorHelds
namespace Go.Proofs.YtcifnfffoiiceaaDoor
section
open Go.RowKit
set_option linter.unusedVariables false

theorem conv_zero (w : World) (src e : TypeId) (hs : Tryd.prog.underlying src = some (.slice e)) (he : Tryd.prog.underlying e = some (.int .u8)) (p : Option Addr) (c : Nat) (dst : TypeId) (hd : Tryd.prog.underlying dst = some .string) :
    (convert src dst (.slice p 0 c)).run Tryd.prog w = .ok (.string ByteArray.empty) w := by
  rw [run_convert_bytes_string w src dst e _ 0 c hs he hd]
  cases p <;> simp [Conv.bytesToString, loadCells]
  all_goals rfl
def intsOf (l : List Nat) : List Int := l.map fun (n : Nat) => (n : Int)
theorem conv_any {w : World} {v : Value} {l : List Nat} (S : SliceOf u8c w v l) : (convert 29 9 v).run Tryd.prog w = .ok (.string (strOfNums (intsOf l))) w := by
  obtain ⟨a, cap, rfl, h1, h2, h3, h4⟩ := S.form
  by_cases h0 : l = []
  · subst h0
    exact conv_zero w _ _ Tryd.underlying29 Tryd.underlying5 a cap _ Tryd.underlying9
  · obtain ⟨x, hx⟩ : ∃ x, l[0]? = some x := ⟨l[0]'(by have := List.length_pos_iff.2 h0; omega), List.getElem?_eq_getElem _⟩
    obtain ⟨b, off, rfl⟩ := h3 0 x hx
    refine run_convert_bytes_arg w _ _ Tryd.underlying29 Tryd.underlying5 b off l.length cap (intsOf l) (by simp [intsOf]) (fun i hi => ?_) _ Tryd.underlying9
    have := h4 b off rfl i l[i] (List.getElem?_eq_getElem hi)
    rw [this]
    unfold u8c intsOf
    congr 2
    rw [List.getD_eq_getElem?_getD, List.getElem?_map, List.getElem?_eq_getElem hi]
    rfl
theorem nums_inj {a b : List Nat} (ha : Bytes a) (hb : Bytes b) : ((strOfNums (intsOf a)).toList == (strOfNums (intsOf b)).toList) = decide (a = b) := by
  rw [ByteArray.toList_eq, ByteArray.toList_eq, strOfNums_data, strOfNums_data, Bool.eq_iff_iff, beq_iff_eq, decide_eq_true_eq]
  constructor
  · intro h
    unfold intsOf at h
    rw [List.map_map, List.map_map] at h
    induction a generalizing b with
    | nil => cases b with
      | nil => rfl
      | cons y b => cases h
    | cons x a ih => cases b with
      | nil => cases h
      | cons y b =>
        simp only [List.map_cons, List.cons.injEq] at h
        obtain ⟨h1, h2⟩ := h
        have e : x = y := by
          have hx := ha x (by simp)
          have hy := hb y (by simp)
          have h3 := congrArg UInt8.toNat h1
          simp [UInt8.toNat_ofNat'] at h3
          omega
        rw [e, ih (fun c hc => ha c (by simp [hc])) (fun c hc => hb c (by simp [hc])) h2]
  · rintro rfl
    rfl
theorem wpList_conv {ops : Array Oper} {rest : List Oper} {o : Oper} {a : Act} {w : World} {Q : Exit → Act → World → Prop} {l : List Nat} (hgd : o.guard = none) (x : Operand) (ho : o.op = .convert 29 9 x) {v : Value} (hx : a.eval x = v) (S : SliceOf u8c w v l)
    (h : wpList Tryd.prog ops Q rest (a.put o.dst (.string (strOfNums (intsOf l)))) w) : wpList Tryd.prog ops Q (o :: rest) a w := by
  refine wpList_plain hgd fun K hK => ?_
  unfold Oper.wp execOp
  rw [ho]
  simp only [hx, Sem.run_bind, conv_any S, Result.andThen_ok, Sem.run_pure, Oper.upon_value]
  exact hK _ _ h
theorem bytesEqual_any {la lb : List Nat} {va vb : Value} (w : World) (ha : SliceOf u8c w va la) (hb : SliceOf u8c w vb lb) (ba : Bytes la) (bb : Bytes lb) :
    Calls Tryd.prog 61 #[va, vb] w fun e w' => e = .returned (.bool (decide (la = lb))) ∧ w' = w := by
  have HA := Lib.hid ha
  have HB := Lib.hid hb
  have NI := Lib.hid (nums_inj ba bb)
  obtain ⟨a, ca, rfl, _⟩ := ha
  obtain ⟨b, cb, rfl, _⟩ := hb
  clear ba bb
  go_enter Tryd.func61, Tryd.ntmps61
  go_wp2_with (first | (refine wpList_conv rfl (.tmp 5) rfl rfl HA.out ?_) | (refine wpList_conv rfl (.tmp 7) rfl rfl HB.out ?_))
  go_ret
  rw [NI.out]
  exact ⟨rfl, rfl⟩
end

section
open Go.RowKit
set_option linter.unusedVariables false
set_option pp.deepTerms true
set_option pp.maxSteps 1000000

theorem st_row {w : World} {g : Nat} {L : List Nat} (h : w.heap[g]? = some (.cells (cellsOf' u8c L) 59 (0, 0))) (hL : L.length = 192) : (loadVar 59 ⟨g, 0, none⟩).run Tryd.prog w = .ok (.agg (cellsOf' u8c L)) w :=
  run_loadVar_row (P := Tryd.prog) w g 59 59 _ (0, 0) _ h Tryd.underlying59 rfl (by rw [co_size, hL]; exact size_st)
theorem inputs_stbk {wd : Int} {l : List Nat} {i : Nat} (h : i < countN l) : (inputsN wd l)[countN l - (i + 1)]? = some (stB wd l i ++ bkB l i) := inputs_get (by omega)
theorem wpList_neA {ops : Array Oper} {rest : List Oper} {o : Oper} {a : Act} {w : World} {Q : Exit → Act → World → Prop} {t : TypeId} {X Y : Array Value} {p : Bool} {z} (hgd : o.guard = none) (x y : Operand) (ho : o.op = .binOp .neq t x y z) (hx : a.eval x = .agg X) (hy : a.eval y = .agg Y)
    (hg : Tryd.prog.eqGuardType Tryd.prog.depth t = false) (he : ∀ w, (Op.equalIn 10000 t (.agg X) (.agg Y)).run Tryd.prog w = .ok p w)
    (h : wpList Tryd.prog ops Q rest (a.put o.dst (.bool (!p))) w) : wpList Tryd.prog ops Q (o :: rest) a w := by
  refine wpList_plain hgd fun K hK => ?_
  unfold Oper.wp execOp
  rw [ho]
  have hm : Op.maxDepth = 10000 := rfl
  simp only [hx, hy]
  have e1 : (eqGuard .neq t x y (.agg X) (.agg Y)).run Tryd.prog w = .ok () w := by simp [eqGuard, hg]
  have e2 : (binOp .neq t (.agg X) (.agg Y)).run Tryd.prog w = .ok (.bool (!p)) w := by simp [binOp, Op.equal, hm, he]
  rw [Sem.run_bind, Sem.run_bind, e1, Result.andThen_ok, e2, Result.andThen_ok, Sem.run_pure, Oper.upon_value]
  exact hK _ _ h
theorem wpList_store_rowN {ops : Array Oper} {rest : List Oper} {o : Oper} {a : Act} {w : World} {Q : Exit → Act → World → Prop} (hgd : o.guard = none) (hd : o.dst = none) (ty : TypeId) (x y : Operand) (ho : o.op = .store ty x y)
    (g : Nat) (cells : Array Value) (hx : a.eval x = .pointer (some ⟨g, 0, none⟩)) (hy : a.eval y = .agg cells)
    (t : TypeId) (old : Array Value) (hg : w.heap[g]? = some (.cells old t (0, 0))) (hi : (Tryd.prog.info? ty).map (·.size) = some cells.size)
    (hold : old.size = cells.size) (h1 : cells.all (·.oneCell') = true)
    (h : wpList Tryd.prog ops Q rest a (w.setRow g cells)) : wpList Tryd.prog ops Q (o :: rest) a w :=
  wpList_store_row hgd ty x y ho g cells hx hy t old hg hi hold h1 (by rw [hd]; exact h)
theorem wpList_build_st {ops : Array Oper} {rest : List Oper} {o : Oper} {a : Act} {w : World} {Q : Exit → Act → World → Prop} {A B C D : List Nat} (hgd : o.guard = none) (x0 x1 x2 x3 : Operand) (ho : o.op = .build 59 #[(0, x0), (2, x2), (1, x1), (3, x3)])
    (h0 : a.eval x0 = .agg (cellsOf' u8c A)) (h1 : a.eval x1 = .agg (cellsOf' u8c B)) (h2 : a.eval x2 = .agg (cellsOf' u8c C)) (h3 : a.eval x3 = .agg (cellsOf' u8c D)) (hA : A.length = 32) (hB : B.length = 32) (hC : C.length = 64) (hD : D.length = 64)
    (h : wpList Tryd.prog ops Q rest (a.put o.dst (.agg (cellsOf' u8c (A ++ (B ++ (C ++ D)))))) w) : wpList Tryd.prog ops Q (o :: rest) a w := by
  refine wpList_plain hgd fun K hK => ?_
  unfold Oper.wp execOp
  rw [ho]
  simp only [List.map_toArray, List.map_cons, List.map_nil, h0, h1, h2, h3, Sem.run_bind, run_build_st w hA hB hC hD, Result.andThen_ok, Sem.run_pure, Oper.upon_value]
  exact hK _ _ h
theorem wpList_min {ops : Array Oper} {rest : List Oper} {o : Oper} {a : Act} {w : World} {Q : Exit → Act → World → Prop} {p q r : Nat} (hgd : o.guard = none) (x y : Operand) (t : TypeId) (ho : o.op = .call { callee := .builtin .min, args := #[x, y], argTypes := #[t, t] })
    (hx : a.eval x = .int .i64 (p : Int)) (hy : a.eval y = .int .i64 (q : Int)) (hr : min p q = r)
    (h : wpList Tryd.prog ops Q rest (a.put o.dst (.int .i64 (r : Int))) w) : wpList Tryd.prog ops Q (o :: rest) a w := by
  refine wpList_plain hgd fun K hK => ?_
  have e : (Builtin.min_ #[t, t] o.type #[.int .i64 (p : Int), .int .i64 (q : Int)]).run Tryd.prog w = .ok (.int .i64 (r : Int)) w := by
    simp [Builtin.min_, Builtin.min2]
    first | done | (split <;> (congr 2; omega))
  unfold Oper.wp execOp
  rw [ho]
  simp only [resolve, invoke, builtin, Sem.run_bind, Sem.run_pure, Result.andThen_ok, List.map_toArray, List.map_cons, List.map_nil, hx, hy, e]
  exact hK _ _ h
set_option maxRecDepth 16000 in
set_option maxHeartbeats 40000000 in
theorem Descend_any {wd : Int} {a b : List Nat} {va vb : Value} (W : World) (D : DoorAt W) (SA : SliceOf u8c W va a) (SB : SliceOf u8c W vb b) (hva : ∀ g, va.ownBlock = some g → g < W.heap.size) (hvb : ∀ g, vb.ownBlock = some g → g < W.heap.size)
    (ba : Bytes a) (bb : Bytes b) (la : a.length ≤ 100000) (lb : b.length ≤ 100000) :
    Calls Tryd.prog 42 #[.int .i64 wd, va, vb] W fun e w' => e = .returned (.tuple #[.agg (cellsOf' u8c (descN wd a b).1), .bool (descN wd a b).2]) ∧ Below W.heap.size W w' := by
  have HSA := Lib.hid (And.intro SA (And.intro hva (And.intro ba la)))
  have HSB := Lib.hid (And.intro SB (And.intro hvb (And.intro bb lb)))
  have HD := Lib.hid D
  have hb1 := D.1
  obtain ⟨aA, cA, rfl, _⟩ := SA
  obtain ⟨aB, cB, rfl, _⟩ := SB
  have HS0 : Hid ((cellsOf' u8c (zeroN)).size = 192) := Lib.hid (by rw [co_size, zero_len])
  have EG := guard_h
  obtain ⟨rb, hrb⟩ : ∃ rb, W.heap.size = rb := ⟨_, rfl⟩
  have HRB := Lib.hid hrb
  obtain ⟨w1, hw1⟩ : ∃ w1, W.alloc (.cells (cellsOf' u8c (zeroN)) 59 (0, 0)) = w1 := ⟨_, rfl⟩
  have G1 : w1.heap[rb]? = some (.cells (cellsOf' u8c (zeroN)) 59 (0, 0)) := by rw [← hw1, ← hrb, heap_alloc_new]
  have B1 : Below rb W w1 := by rw [← hw1, ← hrb]; exact (Below.refl _ _).alloc (Nat.le_refl _) _
  have Z1 : w1.heap.size = rb + 1 := by rw [← hw1, ← hrb]; simp
  have S1A : SliceOf u8c w1 (.slice aA a.length cA) a := HSA.out.1.below (by rw [hrb]; exact B1)
  have S1B : SliceOf u8c w1 (.slice aB b.length cB) b := HSB.out.1.below (by rw [hrb]; exact B1)
  have BE := bytesEqual_any w1 S1A S1B ba bb
  obtain ⟨pe, hpe⟩ : ∃ p, decide (a = b) = p := ⟨_, rfl⟩
  rw [hpe] at BE
  have HBE := Lib.hid BE
  have HW1 := Lib.hid hw1
  have HG1 := Lib.hid G1
  have HB1 := Lib.hid B1
  have HZ1 := Lib.hid Z1
  rw [hrb] at hb1 hva hvb ⊢
  have HV := Lib.hid (And.intro hva hvb)
  clear BE S1A S1B G1 B1 Z1 hw1 ba bb la lb hva hvb D hrb
  have ZC : Hid (Tryd.zeroCells59 = cellsOf' u8c (zeroN)) := Lib.hid (by kernel_rfl)
  rcases pe with _ | _
  · have D1 := HD.out.low hb1 HB1.out
    have r1 : rb ≤ w1.heap.size := by have := HZ1.out; omega
    have SU1 := Lib.hid (sum_one' wd (HSA.out.1.below (by rw [HRB.out]; exact HB1.out)) (fun g hg => by have := HV.out.1 g hg; omega) HSA.out.2.2.1 (by have := HSA.out.2.2.2; omega) D1)
    obtain ⟨S1, hS1⟩ : ∃ S, sumN wd a = S := ⟨_, rfl⟩
    obtain ⟨S2, hS2⟩ : ∃ S, sumN wd b = S := ⟨_, rfl⟩
    have l1 : S1.length = 32 := by rw [← hS1]; exact sum_len _ _
    have l2 : S2.length = 32 := by rw [← hS2]; exact sum_len _ _
    obtain ⟨ps, hps⟩ : ∃ p, decide (S1 = S2) = p := ⟨_, rfl⟩
    have EA : ∀ w, (Op.equalIn 10000 23 (.agg (cellsOf' u8c S1)) (.agg (cellsOf' u8c S2))).run Tryd.prog w = .ok ps w := fun w => by rw [run_eql_h w l1 l2, hps]
    rw [hS1] at SU1
    have HS1 := Lib.hid hS1
    have HS2 := Lib.hid hS2
    clear hS1 hS2
    rcases ps with _ | _
    · have HE : Hid (descN wd a b = (zeroN, false)) := Lib.hid (desc_off (.inr (by rw [HS1.out, HS2.out]; exact of_decide_eq_false hps)))
      clear hpe hps
      go_enter Tryd.func42, Tryd.ntmps42
      go_wp2_with fail
      rw [ZC.out, HW1.out, HRB.out]
      refine HBE.out.mono ?_
      rintro e w2 ⟨rfl, rfl⟩
      go_wp2_with fail
      refine SU1.out.mono ?_
      rintro e w2 ⟨rfl, q2⟩
      have B2 := HB1.out.trans (q2.mono r1)
      have r2 : rb ≤ w2.heap.size := Nat.le_trans r1 q2.size
      have SU2 := sum_one' wd (HSB.out.1.below (by rw [HRB.out]; exact B2)) (fun g hg => by have := HV.out.2 g hg; omega) HSB.out.2.2.1 (by have := HSB.out.2.2.2; omega) (HD.out.low hb1 B2)
      rw [HS2.out] at SU2
      have HSU2 := Lib.hid SU2
      have G2 := (q2.block rb (by have := HZ1.out; omega)).trans HG1.out
      have z2 : rb < w2.heap.size := by have := q2.size; have := HZ1.out; omega
      have HB2 := Lib.hid B2
      clear SU2 B2 q2
      go_wp2_with fail
      refine HSU2.out.mono ?_
      rintro e w3 ⟨rfl, q3⟩
      have G3 := Lib.hid ((q3.block rb z2).trans G2)
      have B3 := HB2.out.trans (q3.mono r2)
      clear q3 G2
      go_wp2_with (first
        | (refine wpList_store_row rfl 59 _ _ rfl rb (cellsOf' u8c zeroN) rfl (by kernel_rfl) 59 _ G3.out (by rw [HS0.out]; exact size_st) (by rw [HS0.out]) (co_one u8c_one) ?_))
      refine bodyPost_ret (results_step rfl _ _ rb _ rfl (st_row (setRow_heap _ _ _ _ _ _ G3.out) zero_len) rfl) rfl ⟨by rw [HE.out]; rfl, below_setRow B3 (Nat.le_refl _) _⟩
    · have HNE : Hid (¬ (a = b ∨ sumN wd a ≠ sumN wd b)) := Lib.hid (by
        rw [HS1.out, HS2.out]
        rintro (h | h)
        · exact (of_decide_eq_false hpe) h
        · exact h (of_decide_eq_true hps))
      clear hpe hps
      go_enter Tryd.func42, Tryd.ntmps42
      go_wp2_with fail
      rw [ZC.out, HW1.out, HRB.out]
      refine HBE.out.mono ?_
      rintro e w2 ⟨rfl, rfl⟩
      go_wp2_with fail
      refine SU1.out.mono ?_
      rintro e w2 ⟨rfl, q2⟩
      have B2 := HB1.out.trans (q2.mono r1)
      have r2 : rb ≤ w2.heap.size := Nat.le_trans r1 q2.size
      have SU2 := sum_one' wd (HSB.out.1.below (by rw [HRB.out]; exact B2)) (fun g hg => by have := HV.out.2 g hg; omega) HSB.out.2.2.1 (by have := HSB.out.2.2.2; omega) (HD.out.low hb1 B2)
      rw [HS2.out] at SU2
      have HSU2 := Lib.hid SU2
      have G2 := (q2.block rb (by have := HZ1.out; omega)).trans HG1.out
      have z2 : rb < w2.heap.size := by have := q2.size; have := HZ1.out; omega
      have HB2 := Lib.hid B2
      clear SU2 B2 q2
      go_wp2_with fail
      refine HSU2.out.mono ?_
      rintro e w3 ⟨rfl, q3⟩
      have G3 := (q3.block rb z2).trans G2
      have B3 := HB2.out.trans (q3.mono r2)
      have z3 : rb < w3.heap.size := Nat.lt_of_lt_of_le z2 q3.size
      have IN1 := Lib.hid (inputs_any (wd := wd) w3 (HD.out.low hb1 B3) (HSA.out.1.below (by rw [HRB.out]; exact B3)) (fun g hg => by have := HV.out.1 g hg; omega) HSA.out.2.2.1 HSA.out.2.2.2)
      clear q3 G2
      go_wp2_with fail
      refine IN1.out.mono ?_
      rintro e w4 ⟨x1, rfl, W1, q4⟩
      have G4 := (q4.block rb z3).trans G3
      have B4 := B3.trans (q4.mono (Nat.le_of_lt z3))
      have z4 : rb < w4.heap.size := Nat.lt_of_lt_of_le z3 q4.size
      have IN2 := Lib.hid (inputs_any (wd := wd) w4 (HD.out.low hb1 B4) (HSB.out.1.below (by rw [HRB.out]; exact B4)) (fun g hg => by have := HV.out.2 g hg; omega) HSB.out.2.2.1 HSB.out.2.2.2)
      have HW := Lib.hid W1
      clear q4 G3 W1 B3
      go_wp2_with fail
      refine IN2.out.mono ?_
      rintro e w5 ⟨x2, rfl, W2, q5⟩
      have G5 := (q5.block rb z4).trans G4
      have B5 := B4.trans (q5.mono (Nat.le_of_lt z4))
      have z5 : rb < w5.heap.size := Nat.lt_of_lt_of_le z4 q5.size
      obtain ⟨a1, cap1, rfl, k1, m1, f1⟩ := (HW.out.below q5).form
      obtain ⟨a2, cap2, rfl, k2, m2, f2⟩ := W2.form
      obtain ⟨g1, rfl, _, gl1, _⟩ := f1 _ _ (inputs_stbk (wd := wd) (count_pos a))
      obtain ⟨g2, rfl, _, gl2, _⟩ := f2 _ _ (inputs_stbk (wd := wd) (count_pos b))
      have R1 : Hid (∀ i, i < countN a → w5.rangeAt g1 ((countN a - (i + 1)) * 96) ((stB wd a i ++ bkB a i).map u8c)) := Lib.hid fun i hi => by
        obtain ⟨g, e, _, _, r⟩ := f1 _ _ (inputs_stbk (wd := wd) hi)
        cases e
        exact r
      have R2 : Hid (∀ i, i < countN b → w5.rangeAt g2 ((countN b - (i + 1)) * 96) ((stB wd b i ++ bkB b i).map u8c)) := Lib.hid fun i hi => by
        obtain ⟨g, e, _, _, r⟩ := f2 _ _ (inputs_stbk (wd := wd) hi)
        cases e
        exact r
      rw [inputs_len] at k1 k2
      rw [inputs_len, inputs_len]
      have LE : Hid (min (countN a) (countN b) = leastN a b) := Lib.hid rfl
      have CA := count_le a
      have CB := count_le b
      have LA := HSA.out.2.2.2
      have LB := HSB.out.2.2.2
      obtain ⟨ca, hca⟩ : ∃ c, countN a = c := ⟨_, rfl⟩
      obtain ⟨cb, hcb⟩ : ∃ c, countN b = c := ⟨_, rfl⟩
      obtain ⟨m, hm⟩ : ∃ m, leastN a b = m := ⟨_, rfl⟩
      rw [hca] at R1 CA k1 LE
      rw [hcb] at R2 CB k2 LE
      rw [hm] at LE
      rw [hca, hcb]
      have HCM := Lib.hid (And.intro hca (And.intro hcb hm))
      have mi : min (ca : Int) (cb : Int) = (m : Int) := by have := LE.out; omega
      have mca : m ≤ ca := by have := LE.out; omega
      have mcb : m ≤ cb := by have := LE.out; omega
      have cai : (ca : Int) ≤ 100002 := by omega
      have cbi : (cb : Int) ≤ 100002 := by omega
      have mle : (m : Int) ≤ 100002 := by omega
      obtain ⟨zb, hzb⟩ : ∃ zb, w5.heap.size = zb := ⟨_, rfl⟩
      have HZB := Lib.hid hzb
      rw [hzb] at z5 gl1 gl2
      have G5h := Lib.hid G5
      have B5h := Lib.hid B5
      have b5 : Below zb w5 w5 := Below.refl _ _
      clear hca hcb hm CA CB LA LB q5 G4 G5 B4 B5 f1 f2 W2 hzb m1 m2 k1 k2
      go_wp2_with fail
      go_loopw [10] (fun i wr => ∃ j : Nat, j ≤ m ∧ i = .int .i64 ((j + 1 : Nat) : Int) ∧ (∀ k, k < j → unlikeN wd a b k = false) ∧ Below zb w5 wr) (fun i _ => m + 1 - (intOf i).toNat)
      case atStart => exact ⟨0, by omega, rfl, fun k hk => absurd hk (by omega), b5⟩
      case round =>
        obtain ⟨j, hj, rfl, hlike, qj⟩ := hrel
        clear b5
        have HL := Lib.hid hlike
        have HQJ := Lib.hid qj
        by_cases hlt : j < m
        · obtain ⟨ia, hia⟩ : ∃ ia, ca - (j + 1) = ia := ⟨_, rfl⟩
          obtain ⟨ib, hib⟩ : ∃ ib, cb - (j + 1) = ib := ⟨_, rfl⟩
          have q1 := below_range qj gl1 (R1.out j (by omega))
          have q2 := below_range qj gl2 (R2.out j (by omega))
          obtain ⟨sa, hsa⟩ : ∃ s, stB wd a j = s := ⟨_, rfl⟩
          obtain ⟨sb, hsb⟩ : ∃ s, stB wd b j = s := ⟨_, rfl⟩
          obtain ⟨ka, hka⟩ : ∃ s, bkB a j = s := ⟨_, rfl⟩
          obtain ⟨kb, hkb⟩ : ∃ s, bkB b j = s := ⟨_, rfl⟩
          have lsa : sa.length = 32 := by rw [← hsa]; exact st_len' _ _ _
          have lsb : sb.length = 32 := by rw [← hsb]; exact st_len' _ _ _
          have lka : ka.length = 64 := by rw [← hka]; exact bk_len (by rw [HCM.out.1]; omega)
          have lkb : kb.length = 64 := by rw [← hkb]; exact bk_len (by rw [HCM.out.2.1]; omega)
          rw [hia, hsa, hka] at q1
          rw [hib, hsb, hkb] at q2
          have HSK := Lib.hid (And.intro hsa (And.intro hsb (And.intro hka hkb)))
          have HLK := Lib.hid (And.intro lsa (And.intro lsb (And.intro lka lkb)))
          have l96a : (sa ++ ka).length = 96 := by rw [List.length_append, lsa, lka]
          have l96b : (sb ++ kb).length = 96 := by rw [List.length_append, lsb, lkb]
          have zA : (Tryd.prog.info? 90).map (·.size) = some ((sa ++ ka).map u8c).length := by rw [List.length_map, l96a]; exact size_in
          have zB : (Tryd.prog.info? 90).map (·.size) = some ((sb ++ kb).map u8c).length := by rw [List.length_map, l96b]; exact size_in
          have ial : ia < ca := by omega
          have ibl : ib < cb := by omega
          have iai : (ca : Int) - ((j : Int) + 1) = (ia : Int) := by omega
          have ibi : (cb : Int) - ((j : Int) + 1) = (ib : Int) := by omega
          have ji : (j : Int) + 1 ≤ (m : Int) := by omega
          have wia : IntKind.i64.wrap (ia : Int) = (ia : Int) := by rw [IntKind.wrap_i64]; omega
          have wib : IntKind.i64.wrap (ib : Int) = (ib : Int) := by clear wia; rw [IntKind.wrap_i64]; omega
          have jca : (j : Int) + 1 ≤ (ca : Int) := by omega
          have jcb : (j : Int) + 1 ≤ (cb : Int) := by omega
          have T0 : wr.drew.rangeAt g1 (0 + ia * 96) ((sa ++ ka).map u8c) ∧ wr.drew.rangeAt g2 (0 + ib * 96) ((sb ++ kb).map u8c) := by rw [Nat.zero_add, Nat.zero_add]; exact ⟨(World.rangeAt_drew _ _ _ _).2 q1, (World.rangeAt_drew _ _ _ _).2 q2⟩
          clear hsa hsb hka hkb lsa lsb lka lkb hia hib q1 q2 hlike qj
          go_wp2_with (first | (refine wpList_min rfl (.tmp 36) (.tmp 38) 3 rfl rfl rfl LE.out ?_))
          clear jca jcb
          refine wp_region_held (S := fun w => w.rangeAt g1 (0 + ia * 96) ((sa ++ ka).map u8c) ∧ w.rangeAt g2 (0 + ib * 96) ((sb ++ kb).map u8c)) (by kernel_rfl) ?_
          change wpAnyH _ _ _ _ _ _ _ _ (World.drew _)
          refine anyH_take (i := 0) (d := 43) (v := (.slice (some ⟨g1, 0, none⟩) ca cap1)) rfl rfl (by kernel_rfl) (by kernel_rfl) (by kernel_rfl) (fun _ _ _ h => h) (Or.inl ⟨by kernel_rfl, fun w _ => by kernel_rfl⟩) T0 ?_
          refine anyH_take (i := 1) (d := 44) (v := (.slice (some ⟨g1, 0, none⟩) ca cap1)) rfl rfl (by kernel_rfl) (by kernel_rfl) (by kernel_rfl) (fun _ _ _ h => h) (Or.inl ⟨by kernel_rfl, fun w _ => by kernel_rfl⟩) T0 ?_
          refine anyH_take (i := 2) (d := 45) (v := .int .i64 (ca : Int)) rfl rfl (by kernel_rfl) (by kernel_rfl) (by kernel_rfl) (fun _ _ _ h => h) (Or.inl ⟨by kernel_rfl, fun w _ => by go_simp⟩) T0 ?_
          refine anyH_take (i := 3) (d := 46) (v := .int .i64 ((j : Int) + 1)) rfl rfl (by kernel_rfl) (by kernel_rfl) (by kernel_rfl) (fun _ _ _ h => h) (Or.inl ⟨by kernel_rfl, fun w _ => by kernel_rfl⟩) T0 ?_
          refine anyH_take (i := 4) (d := 47) (v := .int .i64 (ia : Int)) rfl rfl (by kernel_rfl) (by kernel_rfl) (by kernel_rfl) (fun _ _ _ h => h) (Or.inl ⟨by kernel_rfl, fun w _ => by go_simp⟩) T0 ?_
          refine anyH_take (i := 5) (d := 48) (v := .pointer (some ⟨g1, 0 + ia * 96, none⟩)) rfl rfl (by kernel_rfl) (by kernel_rfl) (by kernel_rfl) (fun _ _ _ h => h) (yields_index (by kernel_rfl) rfl (n := ca) (cap := cap1) (by kernel_rfl) (ki := .i64) (by kernel_rfl) Tryd.underlying87 size_in ial) T0 ?_
          refine anyH_take (i := 6) (d := 49) (v := .agg (cellsOf' u8c (sa ++ ka))) rfl rfl (by kernel_rfl) (by kernel_rfl) (by kernel_rfl) (fun _ _ _ h => h) (yieldsIf_load_mid (by kernel_rfl) 90 (.tmp 48) rfl g1 (0 + ia * 96) (by kernel_rfl) ((sa ++ ka).map u8c) _ (fun w h => h.1) Tryd.underlying90 rfl zA) T0 ?_
          refine anyH_take (i := 7) (d := 50) (v := (.slice (some ⟨g2, 0, none⟩) cb cap2)) rfl rfl (by kernel_rfl) (by kernel_rfl) (by kernel_rfl) (fun _ _ _ h => h) (Or.inl ⟨by kernel_rfl, fun w _ => by kernel_rfl⟩) T0 ?_
          refine anyH_take (i := 8) (d := 51) (v := (.slice (some ⟨g2, 0, none⟩) cb cap2)) rfl rfl (by kernel_rfl) (by kernel_rfl) (by kernel_rfl) (fun _ _ _ h => h) (Or.inl ⟨by kernel_rfl, fun w _ => by kernel_rfl⟩) T0 ?_
          refine anyH_take (i := 9) (d := 52) (v := .int .i64 (cb : Int)) rfl rfl (by kernel_rfl) (by kernel_rfl) (by kernel_rfl) (fun _ _ _ h => h) (Or.inl ⟨by kernel_rfl, fun w _ => by go_simp⟩) T0 ?_
          refine anyH_take (i := 10) (d := 53) (v := .int .i64 ((j : Int) + 1)) rfl rfl (by kernel_rfl) (by kernel_rfl) (by kernel_rfl) (fun _ _ _ h => h) (Or.inl ⟨by kernel_rfl, fun w _ => by kernel_rfl⟩) T0 ?_
          refine anyH_take (i := 11) (d := 54) (v := .int .i64 (ib : Int)) rfl rfl (by kernel_rfl) (by kernel_rfl) (by kernel_rfl) (fun _ _ _ h => h) (Or.inl ⟨by kernel_rfl, fun w _ => by go_simp⟩) T0 ?_
          refine anyH_take (i := 12) (d := 55) (v := .pointer (some ⟨g2, 0 + ib * 96, none⟩)) rfl rfl (by kernel_rfl) (by kernel_rfl) (by kernel_rfl) (fun _ _ _ h => h) (yields_index (by kernel_rfl) rfl (n := cb) (cap := cap2) (by kernel_rfl) (ki := .i64) (by kernel_rfl) Tryd.underlying87 size_in ibl) T0 ?_
          refine anyH_take (i := 13) (d := 56) (v := .agg (cellsOf' u8c (sb ++ kb))) rfl rfl (by kernel_rfl) (by kernel_rfl) (by kernel_rfl) (fun _ _ _ h => h) (yieldsIf_load_mid (by kernel_rfl) 90 (.tmp 55) rfl g2 (0 + ib * 96) (by kernel_rfl) ((sb ++ kb).map u8c) _ (fun w h => h.2) Tryd.underlying90 rfl zB) T0 ?_
          obtain ⟨zr, hzr⟩ : ∃ z, wr.heap.size = z := ⟨_, rfl⟩
          have gz1 : g1 < wr.drew.heap.size := Nat.lt_of_lt_of_le gl1 (by have := HQJ.out.size; have := HZB.out; show zb ≤ wr.heap.size; omega)
          have gz2 : g2 < wr.drew.heap.size := Nat.lt_of_lt_of_le gl2 (by have := HQJ.out.size; have := HZB.out; show zb ≤ wr.heap.size; omega)
          have HT0 := Lib.hid T0
          refine anyH_allocs (i := 14) (j := 15) (d := 11) (e := 12) (t := 90) (u := 90) (X := Tryd.zeroCells90) (Y := Tryd.zeroCells90) (by kernel_rfl) (by kernel_rfl) (by kernel_rfl) rfl rfl rfl rfl (by decide) (by decide) rfl rfl (fun ρ w => by kernel_rfl) (fun ρ w => by kernel_rfl) ?_
          intro p q w6 hpq hp hq hz6 Gp Gq B6
          refine ⟨⟨⟨below_range ((Below.refl _ _).alloc (Nat.le_refl _) _) gz1 T0.1, below_range ((Below.refl _ _).alloc (Nat.le_refl _) _) gz2 T0.2⟩, ⟨below_range ((Below.refl _ _).alloc (Nat.le_refl _) _) gz1 T0.1, below_range ((Below.refl _ _).alloc (Nat.le_refl _) _) gz2 T0.2⟩⟩, ⟨below_range B6 gz1 T0.1, below_range B6 gz2 T0.2⟩, ?_⟩
          have c96a : (cellsOf' u8c (sa ++ ka)).size = 96 := by rw [co_size, l96a]
          have c96b : (cellsOf' u8c (sb ++ kb)).size = 96 := by rw [co_size, l96b]
          have z96 : (Tryd.zeroCells90).size = 96 := by kernel_rfl
          refine anyH_one (i := 16) (by kernel_rfl) rfl ?_
          refine wpList_store_rowN rfl rfl 90 (.tmp 11) (.tmp 49) rfl p (cellsOf' u8c (sa ++ ka)) (by kernel_rfl) (by kernel_rfl) 90 _ Gp (by rw [c96a]; exact size_in) (by rw [c96a, z96]) (co_one u8c_one) ?_
          have P7 := setRow_heap _ _ _ (cellsOf' u8c (sa ++ ka)) _ _ Gp
          have Q7 : (w6.setRow p (cellsOf' u8c (sa ++ ka))).heap[q]? = _ := (setRow_other w6 p q _ (Ne.symm hpq)).trans Gq
          have B7 : Below wr.drew.heap.size wr.drew (w6.setRow p (cellsOf' u8c (sa ++ ka))) := below_setRow B6 hp _
          generalize w6.setRow p (cellsOf' u8c (sa ++ ka)) = w7 at *
          go_wp2_with fail
          refine ⟨⟨below_range B7 gz1 T0.1, below_range B7 gz2 T0.2⟩, ?_⟩
          refine anyH_one (i := 17) (by kernel_rfl) rfl ?_
          refine wpList_store_rowN rfl rfl 90 (.tmp 12) (.tmp 56) rfl q (cellsOf' u8c (sb ++ kb)) (by kernel_rfl) (by kernel_rfl) 90 _ Q7 (by rw [c96b]; exact size_in) (by rw [c96b, z96]) (co_one u8c_one) ?_
          have Q8 := setRow_heap _ _ _ (cellsOf' u8c (sb ++ kb)) _ _ Q7
          have P8 : (w7.setRow q (cellsOf' u8c (sb ++ kb))).heap[p]? = _ := (setRow_other w7 q p _ hpq).trans P7
          have B8 : Below wr.drew.heap.size wr.drew (w7.setRow q (cellsOf' u8c (sb ++ kb))) := below_setRow B7 hq _
          generalize w7.setRow q (cellsOf' u8c (sb ++ kb)) = w8 at *
          go_wp2_with fail
          refine ⟨⟨below_range B8 gz1 T0.1, below_range B8 gz2 T0.2⟩, wpAnyH_done (by kernel_rfl) ?_ _⟩
          have qz : Below zb w5 w8 := HQJ.out.trans (((Below.refl wr.heap.size wr).drew.trans B8).mono (by have := HQJ.out.size; have := HZB.out; omega))
          have HP8 := Lib.hid P8
          have HQ8 := Lib.hid Q8
          have HQZ := Lib.hid qz
          have RP := Lib.hid (And.intro (row_range (o := 0) (cs := sa.map u8c) (cur := (sa ++ ka).map u8c) P8 (fun j v h => by rw [Nat.zero_add, List.map_append, List.getElem?_append_left (List.getElem?_eq_some_iff.1 h).1]; exact h)) (row_range (o := 32) (cs := ka.map u8c) (cur := (sa ++ ka).map u8c) P8 (fun j v h => by rw [List.map_append, List.getElem?_append_right (by rw [List.length_map, HLK.out.1]; omega), List.length_map, HLK.out.1, Nat.add_sub_cancel_left]; exact h)))
          have RQ := Lib.hid (And.intro (row_range (o := 0) (cs := sb.map u8c) (cur := (sb ++ kb).map u8c) Q8 (fun j v h => by rw [Nat.zero_add, List.map_append, List.getElem?_append_left (List.getElem?_eq_some_iff.1 h).1]; exact h)) (row_range (o := 32) (cs := kb.map u8c) (cur := (sb ++ kb).map u8c) Q8 (fun j v h => by rw [List.map_append, List.getElem?_append_right (by rw [List.length_map, HLK.out.2.1]; omega), List.length_map, HLK.out.2.1, Nat.add_sub_cancel_left]; exact h)))
          have G8 := Lib.hid ((qz.block rb z5).trans G5h.out)
          have B9 := B5h.out.trans (qz.mono (Nat.le_of_lt z5))
          obtain ⟨pu, hpu⟩ : ∃ p, decide (sa = sb ∧ ka = kb) = p := ⟨_, rfl⟩
          have EIN : Hid (∀ w, (Op.equalIn 10000 90 (.agg (cellsOf' u8c (sa ++ ka))) (.agg (cellsOf' u8c (sb ++ kb)))).run Tryd.prog w = .ok pu w) := Lib.hid fun w => by rw [run_eql_in w HLK.out.1 HLK.out.2.1 HLK.out.2.2.1 HLK.out.2.2.2, hpu]
          have HU : Hid (unlikeN wd a b j = !pu) := Lib.hid (by unfold unlikeN; rw [HSK.out.1, HSK.out.2.1, HSK.out.2.2.1, HSK.out.2.2.2, ← hpu, decide_not])
          clear T0 B6 B7 B8 P7 P8 Q7 Q8 Gp Gq hpu qz
          simp only [Act.put, List.setIfInBounds_toArray, List.set_cons_succ, List.set_cons_zero]
          rcases pu with _ | _
          · have HE : Hid (descN wd a b = (sa ++ (sb ++ (ka ++ kb)), true)) := Lib.hid (by rw [desc_hit HNE.out (by rw [HCM.out.2.2]; exact hlt) HU.out HL.out]; unfold stepN; rw [HSK.out.1, HSK.out.2.1, HSK.out.2.2.1, HSK.out.2.2.2])
            have sl : (sa ++ (sb ++ (ka ++ kb))).length = 192 := by simp only [List.length_append, HLK.out.1, HLK.out.2.1, HLK.out.2.2.1, HLK.out.2.2.2]
            have zSa : (Tryd.prog.info? 23).map (·.size) = some (sa.map u8c).length := by rw [List.length_map, HLK.out.1]; exact size_32
            have zSb : (Tryd.prog.info? 23).map (·.size) = some (sb.map u8c).length := by rw [List.length_map, HLK.out.2.1]; exact size_32
            have zKa : (Tryd.prog.info? 24).map (·.size) = some (ka.map u8c).length := by rw [List.length_map, HLK.out.2.2.1]; exact size_64
            have zKb : (Tryd.prog.info? 24).map (·.size) = some (kb.map u8c).length := by rw [List.length_map, HLK.out.2.2.2]; exact size_64
            have HSL := Lib.hid sl
            have cs : Hid ((cellsOf' u8c (sa ++ (sb ++ (ka ++ kb)))).size = 192) := Lib.hid (by rw [co_size, sl])
            clear sl
            go_wp2_with (first
              | (with_reducible refine wpList_load_row rfl 90 (.tmp 11) rfl p (by kernel_rfl) 90 _ (0, 0) _ HP8.out Tryd.underlying90 rfl (by rw [c96a]; exact size_in) ?_)
              | (with_reducible refine wpList_load_row rfl 90 (.tmp 12) rfl q (by kernel_rfl) 90 _ (0, 0) _ HQ8.out Tryd.underlying90 rfl (by rw [c96b]; exact size_in) ?_)
              | (with_reducible refine wpList_neA rfl (.tmp 57) (.tmp 58) rfl (by kernel_rfl) (by kernel_rfl) guard_in EIN.out ?_)
              | (with_reducible refine wpList_load_mid rfl 23 (.tmp 60) rfl p 0 (by kernel_rfl) (sa.map u8c) _ RP.out.1 Tryd.underlying23 rfl zSa ?_)
              | (with_reducible refine wpList_load_mid rfl 24 (.tmp 62) rfl p 32 (by kernel_rfl) (ka.map u8c) _ RP.out.2 Tryd.underlying24 rfl zKa ?_)
              | (with_reducible refine wpList_load_mid rfl 23 (.tmp 64) rfl q 0 (by kernel_rfl) (sb.map u8c) _ RQ.out.1 Tryd.underlying23 rfl zSb ?_)
              | (with_reducible refine wpList_load_mid rfl 24 (.tmp 66) rfl q 32 (by kernel_rfl) (kb.map u8c) _ RQ.out.2 Tryd.underlying24 rfl zKb ?_)
              | (with_reducible refine wpList_build_st rfl (.tmp 61) (.tmp 65) (.tmp 63) (.tmp 67) rfl (by kernel_rfl) (by kernel_rfl) (by kernel_rfl) (by kernel_rfl) HLK.out.1 HLK.out.2.1 HLK.out.2.2.1 HLK.out.2.2.2 ?_)
              | (with_reducible refine wpList_store_row rfl 59 (.tmp 6) (.tmp 68) rfl rb (cellsOf' u8c (sa ++ (sb ++ (ka ++ kb)))) (by kernel_rfl) (by kernel_rfl) 59 _ G8.out (by rw [cs.out]; exact size_st) (by rw [cs.out, HS0.out]) (co_one u8c_one) ?_))
            refine bodyPost_ret (results_step rfl _ _ rb _ rfl (st_row (setRow_heap _ _ _ _ _ _ G8.out) HSL.out) rfl) rfl ⟨by rw [HE.out]; rfl, below_setRow B9 (Nat.le_refl _) _⟩
          · go_wp2_with (first
              | (with_reducible refine wpList_load_row rfl 90 (.tmp 11) rfl p (by kernel_rfl) 90 _ (0, 0) _ HP8.out Tryd.underlying90 rfl (by rw [c96a]; exact size_in) ?_)
              | (with_reducible refine wpList_load_row rfl 90 (.tmp 12) rfl q (by kernel_rfl) 90 _ (0, 0) _ HQ8.out Tryd.underlying90 rfl (by rw [c96b]; exact size_in) ?_)
              | (with_reducible refine wpList_neA rfl (.tmp 57) (.tmp 58) rfl (by kernel_rfl) (by kernel_rfl) guard_in EIN.out ?_))
            go_roundw
            case rel => exact ⟨j + 1, by omega, by go_num, fun k hk => (by rcases Nat.lt_or_ge k j with h | h; exact HL.out k h; obtain rfl : k = j := (by omega); exact HU.out), HQZ.out⟩
            case measure => simp [intOf]; omega
        · obtain rfl : j = m := by omega
          have HE : Hid (descN wd a b = (zeroN, false)) := Lib.hid (desc_miss HNE.out (by rw [HCM.out.2.2]; exact HL.out))
          have G6 := Lib.hid ((qj.block rb z5).trans G5h.out)
          have B6 := B5h.out.trans (qj.mono (Nat.le_of_lt z5))
          have jm : ¬ (((j + 1 : Nat) : Int) ≤ (j : Int)) := by omega
          clear hlike qj
          go_wp2_with (first
            | (with_reducible refine wpList_store_row rfl 59 _ _ rfl rb (cellsOf' u8c zeroN) rfl (by kernel_rfl) 59 _ G6.out (by rw [HS0.out]; exact size_st) (by rw [HS0.out]) (co_one u8c_one) ?_))
          all_goals refine bodyPost_ret (results_step rfl _ _ rb _ rfl (st_row (setRow_heap _ _ _ _ _ _ G6.out) zero_len) rfl) rfl ⟨by rw [HE.out]; rfl, below_setRow B6 (Nat.le_refl _) _⟩
  · have HE : Hid (descN wd a b = (zeroN, false)) := Lib.hid (desc_off (.inl (of_decide_eq_true hpe)))
    clear hpe
    go_enter Tryd.func42, Tryd.ntmps42
    go_wp2_with fail
    rw [ZC.out, HW1.out, HRB.out]
    refine HBE.out.mono ?_
    rintro e w2 ⟨rfl, rfl⟩
    go_wp2_with (first
      | (with_reducible refine wpList_store_row rfl 59 _ _ rfl rb (cellsOf' u8c (zeroN)) rfl (by kernel_rfl) 59 _ HG1.out (by rw [HS0.out]; exact size_st) (by rw [HS0.out]) (co_one u8c_one) ?_))
    refine bodyPost_ret (results_step rfl _ _ rb _ rfl (st_row (setRow_heap _ _ _ _ _ _ HG1.out) zero_len) rfl) rfl ⟨by rw [HE.out]; rfl, below_setRow HB1.out (Nat.le_refl _) _⟩
end
end Go.Proofs.YtcifnfffoiiceaaDoor
