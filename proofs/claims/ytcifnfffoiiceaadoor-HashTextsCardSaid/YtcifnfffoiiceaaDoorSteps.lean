/-
  A struct of a state and a block: made by its parts; the inputs of a text as a list. No walk in sight.
  '==' of two structs of a state and a block, and of two steps. No program's walk in sight.
  A struct of four arrays of bytes, made by its parts; results of a struct and a bool. No walk in sight.
  The walk of HashBlocks.
-/
import Derived.Test.YtcifnfffoiiceaaDoorRefText
import Derived.Test.YtcifnfffoiiceaaDoorAwakeH
import Derived.Test.YtcifnfffoiiceaaDoorEqlA
namespace Go.Proofs.YtcifnfffoiiceaaDoor
section
open Go.RowKit
set_option linter.unusedVariables false

theorem info_in : (Tryd.prog.info? 90).map (fun i => (i.zero, i.size, i.bytes)) = some (some (.agg (cellsOf' u8c (List.replicate 96 0))), 96, 96) := by kernel_rfl
theorem size_in : (Tryd.prog.info? 90).map (·.size) = some 96 := by kernel_rfl
set_option maxRecDepth 16000 in
theorem run_build_in (w : World) {S C : List Nat} (hS : S.length = 32) (hC : C.length = 64) :
    (Instr.build 90 #[(0, .agg (cellsOf' u8c S)), (1, .agg (cellsOf' u8c C))]).run Tryd.prog w = .ok (.agg (cellsOf' u8c (S ++ C))) w := by
  match S, hS, C, hC with
  | [a0, a1, a2, a3, a4, a5, a6, a7, a8, a9, a10, a11, a12, a13, a14, a15, a16, a17, a18, a19, a20, a21, a22, a23, a24, a25, a26, a27, a28, a29, a30, a31], _, c0 :: c1 :: c2 :: c3 :: c4 :: c5 :: c6 :: c7 :: c8 :: c9 :: c10 :: c11 :: c12 :: c13 :: c14 :: c15 :: c16 :: c17 :: c18 :: c19 :: c20 :: c21 :: c22 :: c23 :: c24 :: c25 :: c26 :: c27 :: c28 :: c29 :: c30 :: c31 :: c32 :: c33 :: c34 :: c35 :: c36 :: c37 :: c38 :: c39 :: c40 :: c41 :: c42 :: c43 :: c44 :: c45 :: c46 :: c47 :: c48 :: c49 :: c50 :: c51 :: c52 :: c53 :: c54 :: c55 :: c56 :: c57 :: c58 :: c59 :: c60 :: c61 :: c62 :: c63 :: [], _ =>
    show _ = _
    kernel_rfl
/-- The inputs of a text. -/
def inputsN (wd : Int) (l : List Nat) : List (List Nat) := (List.range (countN l)).map fun k => stateN wd (textN l) k ++ chunk (textN l) k
theorem inputs_len (wd : Int) (l : List Nat) : (inputsN wd l).length = countN l := by simp [inputsN]
theorem inputs_get {wd : Int} {l : List Nat} {k : Nat} (h : k < countN l) : (inputsN wd l)[k]? = some (stateN wd (textN l) k ++ chunk (textN l) k) := by simp [inputsN, h]
theorem inputs_take {wd : Int} {l : List Nat} {k : Nat} (h : k < countN l) : (inputsN wd l).take (k + 1) = (inputsN wd l).take k ++ [stateN wd (textN l) k ++ chunk (textN l) k] := by
  rw [List.take_add_one, inputs_get h]
  rfl
theorem chunk_at {l : List Nat} {k : Nat} (h : k < countN l) : (chunk (textN l) k).length = 64 := blocks_64 _ (List.mem_of_getElem? (blocks_get h))
theorem inputs_96 {wd : Int} {l : List Nat} : ∀ K ∈ inputsN wd l, K.length = 96 := by
  intro K hK
  obtain ⟨i, hi, rfl⟩ := List.mem_map.1 hK
  rw [List.mem_range] at hi
  rw [List.length_append, state_len, chunk_at hi]
theorem run_arrptr (w : World) {g o n cap : Nat} (hn : 64 ≤ n) : (Instr.arrayAt 24 (.slice (some ⟨g, o, none⟩) n cap)).run Tryd.prog w = .ok (.pointer (some ⟨g, o, none⟩)) w := by
  unfold Instr.arrayAt
  rw [Sem.run_bind, run_underlying Tryd.underlying24, Result.andThen_ok]
  have : ¬ n < 64 := by omega
  simp [this]
end

section
open Go.RowKit
set_option linter.unusedVariables false

theorem run_items' (d : Nat) (w : World) (x y : List Nat) : ∀ is : List Nat, (∀ i ∈ is, i < x.length ∧ i < y.length) →
    (Op.eqItems (d + 1) 5 1 (cellsOf' u8c x) (cellsOf' u8c y) is).run Tryd.prog w = .ok (is.all fun i => x[i]? == y[i]?) w
  | [], _ => by simp [Op.eqItems]
  | i :: is, h => by
    obtain ⟨h1, h2⟩ := h i (by simp)
    have p1 := run_part_plain (P := Tryd.prog) w plain_u8 (xs := cellsOf' u8c x) (off := i * 1) (by rw [Nat.mul_one]; exact co_get (List.getElem?_eq_getElem h1))
    have p2 := run_part_plain (P := Tryd.prog) w plain_u8 (xs := cellsOf' u8c y) (off := i * 1) (by rw [Nat.mul_one]; exact co_get (List.getElem?_eq_getElem h2))
    have e : (Op.equalIn (d + 1) 5 (u8c x[i]) (u8c y[i])).run Tryd.prog w = .ok (decide (x[i] = y[i])) w := by
      have := run_equalIn_int (P := Tryd.prog) w d 5 .u8 .u8 (x[i] : Int) (y[i] : Int) Tryd.underlying5
      unfold u8c
      rw [this]
      congr 1
      rw [Bool.eq_iff_iff]
      simp
      omega
    have ih := run_items' d w x y is fun j hj => h j (by simp [hj])
    simp only [Op.eqItems, Sem.run_bind, p1, p2, e, Result.andThen_ok]
    rw [List.all_cons, List.getElem?_eq_getElem h1, List.getElem?_eq_getElem h2]
    by_cases hc : x[i] = y[i]
    · simp [hc, ih]
    · simp [hc]
theorem run_eql_h' (d : Nat) (w : World) {x y : List Nat} (hx : x.length = 32) (hy : y.length = 32) :
    (Op.equalIn (d + 2) 23 (.agg (cellsOf' u8c x)) (.agg (cellsOf' u8c y))).run Tryd.prog w = .ok (decide (x = y)) w := by
  obtain ⟨i0, hi, hz0, hz1, hz2⟩ := info_parts info_u8
  rw [run_equalIn_array w (d + 1) _ _ Tryd.underlying23 hi, cells_u8, run_items' d w x y _ (fun i hi => by rw [List.mem_range] at hi; omega), all_eq hx hy]
theorem run_eql_b' (d : Nat) (w : World) {x y : List Nat} (hx : x.length = 64) (hy : y.length = 64) :
    (Op.equalIn (d + 2) 24 (.agg (cellsOf' u8c x)) (.agg (cellsOf' u8c y))).run Tryd.prog w = .ok (decide (x = y)) w := by
  obtain ⟨i0, hi, hz0, hz1, hz2⟩ := info_parts info_u8
  rw [run_equalIn_array w (d + 1) _ _ Tryd.underlying24 hi, cells_u8, run_items' d w x y _ (fun i hi => by rw [List.mem_range] at hi; omega), all_eq hx hy]
theorem co_extract (L : List Nat) (o n : Nat) : (cellsOf' u8c L).extract o (o + n) = cellsOf' u8c ((L.drop o).take n) := by
  unfold cellsOf'
  rw [List.extract_toArray, List.extract_eq_take_drop, List.map_take, List.map_drop]
  simp
theorem run_part_agg (w : World) {t e : TypeId} {n s : Nat} (ht : Tryd.prog.underlying t = some (.array n e)) (hs : (Tryd.prog.info? t).map (·.size) = some s) (L : List Nat) (o : Nat) :
    (part t (cellsOf' u8c L) o).run Tryd.prog w = .ok (.agg (cellsOf' u8c ((L.drop o).take s))) w := by
  obtain ⟨i0, hi, hs0⟩ := Option.map_eq_some_iff.1 hs
  have rt : (typeInfo t).run Tryd.prog w = .ok i0 w := run_typeInfo w hi
  have rs : (sizeOf t).run Tryd.prog w = .ok s w := by simp [sizeOf, rt, hs0]
  have ra : (isAgg t).run Tryd.prog w = .ok true w := by simp [isAgg, run_underlying ht]
  unfold part
  rw [Sem.run_bind, ra, Result.andThen_ok]
  simp only [if_true, Sem.run_bind, rs, Result.andThen_ok, Sem.run_pure, co_extract]
theorem fields_in : Tryd.prog.underlying 90 = some (.struct (Tryd.prog.fieldsOf 90)) := by kernel_rfl
theorem fields_list : ((Tryd.prog.fieldsOf 90).toList.map fun f => (f.name == "_", f.type, f.offset)) = [(false, 23, 0), (false, 24, 32)] := by kernel_rfl
theorem stood_in : Tryd.prog.stoodInHeld 90 = false := by kernel_rfl
theorem guard_in : Tryd.prog.eqGuardType Tryd.prog.depth 90 = false := by kernel_rfl
theorem run_fields_in (d : Nat) (w : World) {s1 s2 c1 c2 : List Nat} (h1 : s1.length = 32) (h2 : s2.length = 32) (k1 : c1.length = 64) (k2 : c2.length = 64) :
    (Op.eqFields (d + 2) (cellsOf' u8c (s1 ++ c1)) (cellsOf' u8c (s2 ++ c2)) (Tryd.prog.fieldsOf 90).toList).run Tryd.prog w = .ok (decide (s1 = s2 ∧ c1 = c2)) w := by
  obtain ⟨f, r, e1, hf, hr⟩ := List.map_eq_cons_iff.1 fields_list
  obtain ⟨g, r2, e2, hg, hr2⟩ := List.map_eq_cons_iff.1 hr
  obtain rfl := List.map_eq_nil_iff.1 hr2
  subst e2
  rw [e1]
  simp only [Prod.mk.injEq] at hf hg
  obtain ⟨n1, t1, o1⟩ := hf
  obtain ⟨n2, t2, o2⟩ := hg
  have m1 : f.name ≠ "_" := by simpa using n1
  have m2 : g.name ≠ "_" := by simpa using n2
  have p1 := run_part_agg w Tryd.underlying23 size_32 (s1 ++ c1) 0
  have p2 := run_part_agg w Tryd.underlying23 size_32 (s2 ++ c2) 0
  have p3 := run_part_agg w Tryd.underlying24 size_64 (s1 ++ c1) 32
  have p4 := run_part_agg w Tryd.underlying24 size_64 (s2 ++ c2) 32
  rw [List.drop_zero, List.take_append_of_le_length (by omega), List.take_of_length_le (by omega)] at p1 p2
  rw [List.drop_append_of_le_length (by omega), List.drop_of_length_le (by omega), List.nil_append, List.take_of_length_le (by omega)] at p3 p4
  have q1 : (Op.equalIn (d + 2) 23 (.agg (cellsOf' u8c s1)) (.agg (cellsOf' u8c s2))).run Tryd.prog w = .ok (decide (s1 = s2)) w := run_eql_h' d w h1 h2
  have q2 : (Op.equalIn (d + 2) 24 (.agg (cellsOf' u8c c1)) (.agg (cellsOf' u8c c2))).run Tryd.prog w = .ok (decide (c1 = c2)) w := run_eql_b' d w k1 k2
  clear e1 hr hr2
  unfold Op.eqFields
  rw [if_pos m1, t1, o1]
  rw [Sem.run_bind, p1, Result.andThen_ok, Sem.run_bind, p2, Result.andThen_ok, Sem.run_bind, q1, Result.andThen_ok]
  by_cases hs : s1 = s2
  · rw [decide_eq_true hs, if_neg (by decide)]
    unfold Op.eqFields
    rw [if_pos m2, t2, o2, Sem.run_bind, p3, Result.andThen_ok, Sem.run_bind, p4, Result.andThen_ok, Sem.run_bind, q2, Result.andThen_ok]
    by_cases hc : c1 = c2
    · rw [decide_eq_true hc, if_neg (by decide), decide_eq_true ⟨hs, hc⟩]
      unfold Op.eqFields
      rw [Sem.run_pure]
    · rw [decide_eq_false hc, if_pos (by decide), decide_eq_false (fun h => hc h.2), Sem.run_pure]
  · rw [decide_eq_false hs, if_pos (by decide), decide_eq_false (fun h => hs h.1), Sem.run_pure]
theorem run_eql_in (w : World) {s1 s2 c1 c2 : List Nat} (h1 : s1.length = 32) (h2 : s2.length = 32) (k1 : c1.length = 64) (k2 : c2.length = 64) :
    (Op.equalIn 10000 90 (.agg (cellsOf' u8c (s1 ++ c1))) (.agg (cellsOf' u8c (s2 ++ c2)))).run Tryd.prog w = .ok (decide (s1 = s2 ∧ c1 = c2)) w := by
  rw [run_equalIn_struct w 9999 _ _ _ fields_in stood_in]
  exact run_fields_in 9997 w h1 h2 k1 k2
end

section
open Go.RowKit
set_option linter.unusedVariables false
set_option linter.unusedSimpArgs false

theorem fill_at (off : Nat) : ∀ (l : List Value) (k : Nat) (Z : Array Value), off + k + l.length ≤ Z.size → (l.zipIdx k).foldl (fun cs x => cs.setIfInBounds (off + x.2) x.1) Z = (Z.toList.take (off + k) ++ l ++ Z.toList.drop (off + k + l.length)).toArray
  | [], k, Z, h => by simp
  | c :: l, k, Z, h => by
    simp only [List.length_cons] at h
    rw [List.zipIdx_cons, List.foldl_cons, fill_at off l (k + 1) _ (by simp; omega)]
    congr 1
    have e : (Z.setIfInBounds (off + k) c).toList.take (off + (k + 1)) = Z.toList.take (off + k) ++ [c] := by
      rw [Array.toList_setIfInBounds, ← Nat.add_assoc, List.take_add_one, List.getElem?_set_self (by simp; omega), List.take_set_of_le (Nat.le_refl _)]
      rfl
    have e2 : (Z.setIfInBounds (off + k) c).toList.drop (off + (k + 1) + l.length) = Z.toList.drop (off + k + (l.length + 1)) := by
      rw [Array.toList_setIfInBounds, List.drop_set_of_lt (by omega)]
      congr 1
      omega
    rw [e, e2]
    simp
theorem fill_co (L A : List Nat) (off : Nat) (h : off + A.length ≤ L.length) : (cellsOf' u8c A).zipIdx.foldl (fun cs x => cs.setIfInBounds (off + x.2) x.1) (cellsOf' u8c L) = cellsOf' u8c (L.take off ++ A ++ L.drop (off + A.length)) := by
  rw [← Array.foldl_toList, Array.toList_zipIdx, fill_at off _ 0 _ (by simp [cellsOf']; exact h)]
  simp [cellsOf', List.map_take, List.map_drop]
theorem info_st : (Tryd.prog.info? 59).map (fun i => (i.zero, i.size, i.bytes)) = some (some (.agg (cellsOf' u8c (List.replicate 192 0))), 192, 192) := by kernel_rfl
theorem size_st : (Tryd.prog.info? 59).map (·.size) = some 192 := by kernel_rfl
theorem fields_st : Tryd.prog.underlying 59 = some (.struct (Tryd.prog.fieldsOf 59)) := by kernel_rfl
theorem places_st (w : World) : ((Tryd.prog.fieldsOf 59).mapM fun f => do pure (f.offset, ← sizeOf f.type) : Sem (Array (Nat × Nat))).run Tryd.prog w = .ok #[(0, 32), (32, 32), (64, 64), (128, 64)] w := by kernel_rfl
theorem fill_step {place : Nat → Option (Nat × Nat)} {i off s : Nat} {L A M : List Nat} {rest : List (Nat × Value)} (hp : place i = some (off, s)) (hA : A.length = s) (h : off + s ≤ L.length) (hM : L.take off ++ A ++ L.drop (off + A.length) = M) :
    Instr.fill place (cellsOf' u8c L) ((i, .agg (cellsOf' u8c A)) :: rest) = Instr.fill place (cellsOf' u8c M) rest := by
  have c : (Value.agg (cellsOf' u8c A)).cells = cellsOf' u8c A := rfl
  have e4 : (decide ((cellsOf' u8c A).size ≠ s) || decide (off + (cellsOf' u8c A).size > (cellsOf' u8c L).size)) = false := by
    rw [co_size, co_size, hA]
    simp
    omega
  rw [Instr.fill, hp]
  simp only [c, e4, Bool.false_eq_true, if_false]
  rw [fill_co L A off (by omega), hM]
theorem fill_done {place : Nat → Option (Nat × Nat)} {cs : Array Value} : Instr.fill place cs [] = some cs := by rw [Instr.fill]
theorem mid {P X S A : List Nat} {off : Nat} (hP : P.length = off) (hX : X.length = A.length) : (P ++ (X ++ S)).take off ++ A ++ (P ++ (X ++ S)).drop (off + A.length) = P ++ (A ++ S) := by
  subst hP
  rw [List.take_left, ← hX, ← List.drop_drop, List.drop_left, List.drop_left, List.append_assoc]
theorem fill_st {A B C D Z1 Z2 Z3 Z4 : List Nat} (hA : A.length = 32) (hB : B.length = 32) (hC : C.length = 64) (hD : D.length = 64) (h1 : Z1.length = 32) (h2 : Z2.length = 32) (h3 : Z3.length = 64) (h4 : Z4.length = 64) :
    Instr.fill (fun i => #[(0, 32), (32, 32), (64, 64), (128, 64)][i]?) (cellsOf' u8c (Z1 ++ (Z2 ++ (Z3 ++ Z4)))) [(0, .agg (cellsOf' u8c A)), (2, .agg (cellsOf' u8c C)), (1, .agg (cellsOf' u8c B)), (3, .agg (cellsOf' u8c D))] = some (cellsOf' u8c (A ++ (B ++ (C ++ D)))) := by
  have e0 : Instr.fill (fun i => #[(0, 32), (32, 32), (64, 64), (128, 64)][i]?) (cellsOf' u8c (Z1 ++ (Z2 ++ (Z3 ++ Z4)))) ((0, Value.agg (cellsOf' u8c A)) :: [((2 : Nat), Value.agg (cellsOf' u8c C)), ((1 : Nat), Value.agg (cellsOf' u8c B)), ((3 : Nat), Value.agg (cellsOf' u8c D))]) = Instr.fill (fun i => #[(0, 32), (32, 32), (64, 64), (128, 64)][i]?) (cellsOf' u8c (A ++ (Z2 ++ (Z3 ++ Z4)))) [((2 : Nat), Value.agg (cellsOf' u8c C)), ((1 : Nat), Value.agg (cellsOf' u8c B)), ((3 : Nat), Value.agg (cellsOf' u8c D))] :=
    fill_step (off := 0) (s := 32) rfl hA (by (try simp only [List.length_append]); omega) (by have := mid (P := ([] : List Nat)) (X := Z1) (S := (Z2 ++ (Z3 ++ Z4))) (A := A) (off := 0) (by (try simp only [List.length_append, List.length_nil]); (try omega)) (by omega); simpa only [List.append_assoc, List.nil_append, List.append_nil] using this)
  have e1 : Instr.fill (fun i => #[(0, 32), (32, 32), (64, 64), (128, 64)][i]?) (cellsOf' u8c (A ++ (Z2 ++ (Z3 ++ Z4)))) ((2, Value.agg (cellsOf' u8c C)) :: [((1 : Nat), Value.agg (cellsOf' u8c B)), ((3 : Nat), Value.agg (cellsOf' u8c D))]) = Instr.fill (fun i => #[(0, 32), (32, 32), (64, 64), (128, 64)][i]?) (cellsOf' u8c (A ++ (Z2 ++ (C ++ Z4)))) [((1 : Nat), Value.agg (cellsOf' u8c B)), ((3 : Nat), Value.agg (cellsOf' u8c D))] :=
    fill_step (off := 64) (s := 64) rfl hC (by (try simp only [List.length_append]); omega) (by have := mid (P := (A ++ Z2)) (X := Z3) (S := Z4) (A := C) (off := 64) (by (try simp only [List.length_append, List.length_nil]); (try omega)) (by omega); simpa only [List.append_assoc, List.nil_append, List.append_nil] using this)
  have e2 : Instr.fill (fun i => #[(0, 32), (32, 32), (64, 64), (128, 64)][i]?) (cellsOf' u8c (A ++ (Z2 ++ (C ++ Z4)))) ((1, Value.agg (cellsOf' u8c B)) :: [((3 : Nat), Value.agg (cellsOf' u8c D))]) = Instr.fill (fun i => #[(0, 32), (32, 32), (64, 64), (128, 64)][i]?) (cellsOf' u8c (A ++ (B ++ (C ++ Z4)))) [((3 : Nat), Value.agg (cellsOf' u8c D))] :=
    fill_step (off := 32) (s := 32) rfl hB (by (try simp only [List.length_append]); omega) (by have := mid (P := A) (X := Z2) (S := (C ++ Z4)) (A := B) (off := 32) (by (try simp only [List.length_append, List.length_nil]); (try omega)) (by omega); simpa only [List.append_assoc, List.nil_append, List.append_nil] using this)
  have e3 : Instr.fill (fun i => #[(0, 32), (32, 32), (64, 64), (128, 64)][i]?) (cellsOf' u8c (A ++ (B ++ (C ++ Z4)))) ((3, Value.agg (cellsOf' u8c D)) :: []) = Instr.fill (fun i => #[(0, 32), (32, 32), (64, 64), (128, 64)][i]?) (cellsOf' u8c (A ++ (B ++ (C ++ D)))) [] :=
    fill_step (off := 128) (s := 64) rfl hD (by (try simp only [List.length_append]); omega) (by have := mid (P := (A ++ B ++ C)) (X := Z4) (S := ([] : List Nat)) (A := D) (off := 128) (by (try simp only [List.length_append, List.length_nil]); (try omega)) (by omega); simpa only [List.append_assoc, List.nil_append, List.append_nil] using this)
  rw [e0, e1, e2, e3, fill_done]
theorem run_build_st (w : World) {A B C D : List Nat} (hA : A.length = 32) (hB : B.length = 32) (hC : C.length = 64) (hD : D.length = 64) :
    (Instr.build 59 #[(0, .agg (cellsOf' u8c A)), (2, .agg (cellsOf' u8c C)), (1, .agg (cellsOf' u8c B)), (3, .agg (cellsOf' u8c D))]).run Tryd.prog w = .ok (.agg (cellsOf' u8c (A ++ (B ++ (C ++ D))))) w := by
  obtain ⟨i0, hi, hz0, hz1, hz2⟩ := info_parts info_st
  have rt : (typeInfo 59).run Tryd.prog w = .ok i0 w := run_typeInfo w hi
  have rz : (zeroValue 59).run Tryd.prog w = .ok (.agg (cellsOf' u8c (List.replicate 192 0))) w := by simp only [zeroValue, Sem.run_bind, rt, Result.andThen_ok, hz0, Sem.run_pure]
  have ez : List.replicate 192 0 = List.replicate 32 0 ++ (List.replicate 32 0 ++ (List.replicate 64 0 ++ List.replicate 64 (0 : Nat))) := by kernel_rfl
  have ef := fill_st (Z1 := List.replicate 32 0) (Z2 := List.replicate 32 0) (Z3 := List.replicate 64 0) (Z4 := List.replicate 64 0) hA hB hC hD List.length_replicate List.length_replicate List.length_replicate List.length_replicate
  rw [← ez] at ef
  unfold Instr.build
  rw [Sem.run_bind, rz, Result.andThen_ok, Sem.run_bind, run_underlying fields_st, Result.andThen_ok]
  simp only []
  rw [Sem.run_bind, places_st, Result.andThen_ok]
  have c0 : (Value.agg (cellsOf' u8c (List.replicate 192 0))).cells = cellsOf' u8c (List.replicate 192 0) := rfl
  rw [c0, ef]
  rfl
theorem fill_st2 {A B C D Z1 Z2 Z3 Z4 : List Nat} (hA : A.length = 32) (hB : B.length = 32) (hC : C.length = 64) (hD : D.length = 64) (h1 : Z1.length = 32) (h2 : Z2.length = 32) (h3 : Z3.length = 64) (h4 : Z4.length = 64) :
    Instr.fill (fun i => #[(0, 32), (32, 32), (64, 64), (128, 64)][i]?) (cellsOf' u8c (Z1 ++ (Z2 ++ (Z3 ++ Z4)))) [(0, .agg (cellsOf' u8c A)), (1, .agg (cellsOf' u8c B)), (2, .agg (cellsOf' u8c C)), (3, .agg (cellsOf' u8c D))] = some (cellsOf' u8c (A ++ (B ++ (C ++ D)))) := by
  have e0 : Instr.fill (fun i => #[(0, 32), (32, 32), (64, 64), (128, 64)][i]?) (cellsOf' u8c (Z1 ++ (Z2 ++ (Z3 ++ Z4)))) ((0, Value.agg (cellsOf' u8c A)) :: [((1 : Nat), Value.agg (cellsOf' u8c B)), ((2 : Nat), Value.agg (cellsOf' u8c C)), ((3 : Nat), Value.agg (cellsOf' u8c D))]) = Instr.fill (fun i => #[(0, 32), (32, 32), (64, 64), (128, 64)][i]?) (cellsOf' u8c (A ++ (Z2 ++ (Z3 ++ Z4)))) [((1 : Nat), Value.agg (cellsOf' u8c B)), ((2 : Nat), Value.agg (cellsOf' u8c C)), ((3 : Nat), Value.agg (cellsOf' u8c D))] :=
    fill_step (off := 0) (s := 32) rfl hA (by (try simp only [List.length_append]); omega) (by have := mid (P := ([] : List Nat)) (X := Z1) (S := (Z2 ++ (Z3 ++ Z4))) (A := A) (off := 0) (by (try simp only [List.length_append, List.length_nil]); (try omega)) (by omega); simpa only [List.append_assoc, List.nil_append, List.append_nil] using this)
  have e1 : Instr.fill (fun i => #[(0, 32), (32, 32), (64, 64), (128, 64)][i]?) (cellsOf' u8c (A ++ (Z2 ++ (Z3 ++ Z4)))) ((1, Value.agg (cellsOf' u8c B)) :: [((2 : Nat), Value.agg (cellsOf' u8c C)), ((3 : Nat), Value.agg (cellsOf' u8c D))]) = Instr.fill (fun i => #[(0, 32), (32, 32), (64, 64), (128, 64)][i]?) (cellsOf' u8c (A ++ (B ++ (Z3 ++ Z4)))) [((2 : Nat), Value.agg (cellsOf' u8c C)), ((3 : Nat), Value.agg (cellsOf' u8c D))] :=
    fill_step (off := 32) (s := 32) rfl hB (by (try simp only [List.length_append]); omega) (by have := mid (P := A) (X := Z2) (S := (Z3 ++ Z4)) (A := B) (off := 32) (by (try simp only [List.length_append, List.length_nil]); (try omega)) (by omega); simpa only [List.append_assoc, List.nil_append, List.append_nil] using this)
  have e2 : Instr.fill (fun i => #[(0, 32), (32, 32), (64, 64), (128, 64)][i]?) (cellsOf' u8c (A ++ (B ++ (Z3 ++ Z4)))) ((2, Value.agg (cellsOf' u8c C)) :: [((3 : Nat), Value.agg (cellsOf' u8c D))]) = Instr.fill (fun i => #[(0, 32), (32, 32), (64, 64), (128, 64)][i]?) (cellsOf' u8c (A ++ (B ++ (C ++ Z4)))) [((3 : Nat), Value.agg (cellsOf' u8c D))] :=
    fill_step (off := 64) (s := 64) rfl hC (by (try simp only [List.length_append]); omega) (by have := mid (P := (A ++ B)) (X := Z3) (S := Z4) (A := C) (off := 64) (by (try simp only [List.length_append, List.length_nil]); (try omega)) (by omega); simpa only [List.append_assoc, List.nil_append, List.append_nil] using this)
  have e3 : Instr.fill (fun i => #[(0, 32), (32, 32), (64, 64), (128, 64)][i]?) (cellsOf' u8c (A ++ (B ++ (C ++ Z4)))) ((3, Value.agg (cellsOf' u8c D)) :: []) = Instr.fill (fun i => #[(0, 32), (32, 32), (64, 64), (128, 64)][i]?) (cellsOf' u8c (A ++ (B ++ (C ++ D)))) [] :=
    fill_step (off := 128) (s := 64) rfl hD (by (try simp only [List.length_append]); omega) (by have := mid (P := (A ++ B ++ C)) (X := Z4) (S := ([] : List Nat)) (A := D) (off := 128) (by (try simp only [List.length_append, List.length_nil]); (try omega)) (by omega); simpa only [List.append_assoc, List.nil_append, List.append_nil] using this)
  rw [e0, e1, e2, e3, fill_done]
theorem run_build_st2 (w : World) {A B C D : List Nat} (hA : A.length = 32) (hB : B.length = 32) (hC : C.length = 64) (hD : D.length = 64) :
    (Instr.build 59 #[(0, .agg (cellsOf' u8c A)), (1, .agg (cellsOf' u8c B)), (2, .agg (cellsOf' u8c C)), (3, .agg (cellsOf' u8c D))]).run Tryd.prog w = .ok (.agg (cellsOf' u8c (A ++ (B ++ (C ++ D))))) w := by
  obtain ⟨i0, hi, hz0, hz1, hz2⟩ := info_parts info_st
  have rt : (typeInfo 59).run Tryd.prog w = .ok i0 w := run_typeInfo w hi
  have rz : (zeroValue 59).run Tryd.prog w = .ok (.agg (cellsOf' u8c (List.replicate 192 0))) w := by simp only [zeroValue, Sem.run_bind, rt, Result.andThen_ok, hz0, Sem.run_pure]
  have ez : List.replicate 192 0 = List.replicate 32 0 ++ (List.replicate 32 0 ++ (List.replicate 64 0 ++ List.replicate 64 (0 : Nat))) := by kernel_rfl
  have ef := fill_st2 (Z1 := List.replicate 32 0) (Z2 := List.replicate 32 0) (Z3 := List.replicate 64 0) (Z4 := List.replicate 64 0) hA hB hC hD List.length_replicate List.length_replicate List.length_replicate List.length_replicate
  rw [← ez] at ef
  unfold Instr.build
  rw [Sem.run_bind, rz, Result.andThen_ok, Sem.run_bind, run_underlying fields_st, Result.andThen_ok]
  simp only []
  rw [Sem.run_bind, places_st, Result.andThen_ok]
  have c0 : (Value.agg (cellsOf' u8c (List.replicate 192 0))).cells = cellsOf' u8c (List.replicate 192 0) := rfl
  rw [c0, ef]
  rfl
theorem results_step {fn : Func} {p u : Tmp} {ty : TypeId} (h : fn.results = #[.cell p ty, .tmp u]) (tmps : Array Value) (w : World) (g : Nat) (cs : Array Value)
    (hp : tmps.getD p undef = .pointer (some ⟨g, 0, none⟩)) (hl : (loadVar ty ⟨g, 0, none⟩).run Tryd.prog w = .ok (.agg cs) w) {v : Value} (hv : tmps.getD u undef = v) :
    (results fn tmps).run Tryd.prog w = .ok (.tuple #[.agg cs, v]) w := by
  have hp' : tmps[p]?.getD undef = .pointer (some ⟨g, 0, none⟩) := by simpa using hp
  have hv' : tmps[u]?.getD undef = v := by simpa using hv
  simp [results, h, hp', hv', asAddr, hl]
end

section
open Go.RowKit
set_option linter.unusedVariables false
set_option pp.deepTerms true
set_option pp.maxSteps 1000000

theorem wpList_yields {P : Program} {ops : Array Oper} {rest : List Oper} {S : World → Prop} {o : Oper} {v : Value} {a : Act} {w : World} {Q : Exit → Act → World → Prop} (hy : YieldsIf P ops S o v a) (hS : S w)
    (h : wpList P ops Q rest (a.put o.dst v) w) : wpList P ops Q (o :: rest) a w := by
  refine wpList_step fun K hK => ?_
  rcases hy with ⟨hw, hr⟩ | ⟨hw, rfl⟩
  · rw [if_pos hw]
    unfold Oper.wp
    rw [hr w hS, Oper.upon_value]
    exact hK _ _ h
  · rw [if_neg (by rw [hw]; decide)]
    exact hK _ _ h
def Ranges4 (xb : Nat) (sa sb ka kb : List Nat) (w : World) : Prop := w.rangeAt xb 0 (sa.map u8c) ∧ w.rangeAt xb 32 (sb.map u8c) ∧ w.rangeAt xb 64 (ka.map u8c) ∧ w.rangeAt xb 128 (kb.map u8c)
theorem ranges4 {xb : Nat} {sa sb ka kb : List Nat} {w w' : World} (q : Below w.heap.size w w') (h : xb < w.heap.size) (T : Ranges4 xb sa sb ka kb w) : Ranges4 xb sa sb ka kb w' :=
  ⟨below_range q h T.1, below_range q h T.2.1, below_range q h T.2.2.1, below_range q h T.2.2.2⟩
theorem ranges_of {w : World} {xb : Nat} {sa sb ka kb : List Nat} {t : TypeId} (h : w.heap[xb]? = some (.cells (cellsOf' u8c (sa ++ (sb ++ (ka ++ kb)))) t (0, 0))) (ha : sa.length = 32) (hb : sb.length = 32) (hk : ka.length = 64) : Ranges4 xb sa sb ka kb w := by
  have key : ∀ (pre x post : List Nat), sa ++ (sb ++ (ka ++ kb)) = pre ++ (x ++ post) → w.rangeAt xb pre.length (x.map u8c) := fun pre x post e => row_range (cur := (sa ++ (sb ++ (ka ++ kb))).map u8c) h (fun j v hj => by
    rw [e, List.map_append, List.getElem?_append_right (by rw [List.length_map]; omega), List.length_map, Nat.add_sub_cancel_left, List.map_append, List.getElem?_append_left (List.getElem?_eq_some_iff.1 hj).1]
    exact hj)
  have k1 := key [] sa (sb ++ (ka ++ kb)) rfl
  have k2 := key sa sb (ka ++ kb) rfl
  have k3 := key (sa ++ sb) ka kb (by simp only [List.append_assoc])
  have k4 := key (sa ++ sb ++ ka) kb [] (by simp only [List.append_assoc, List.append_nil])
  rw [List.length_nil] at k1
  rw [ha] at k2
  rw [List.length_append, ha, hb] at k3
  rw [List.length_append, List.length_append, ha, hb, hk] at k4
  exact ⟨k1, k2, k3, k4⟩
theorem fields_st_list : ((Tryd.prog.fieldsOf 59).toList.map fun f => (f.name == "_", f.type, f.offset)) = [(false, 23, 0), (false, 23, 32), (false, 24, 64), (false, 24, 128)] := by kernel_rfl
theorem stood_st : Tryd.prog.stoodInHeld 59 = false := by kernel_rfl
theorem guard_st : Tryd.prog.eqGuardType Tryd.prog.depth 59 = false := by kernel_rfl
theorem one_field (d : Nat) (w : World) {X : List Nat} {f : Field} {fs : List Field} {t e : TypeId} {n s off : Nat} (hn : (f.name == "_") = false) (ht : f.type = t) (ho : f.offset = off) (hu : Tryd.prog.underlying t = some (.array n e)) (hz : (Tryd.prog.info? t).map (·.size) = some s)
    (he : (Op.equalIn d t (.agg (cellsOf' u8c ((X.drop off).take s))) (.agg (cellsOf' u8c ((X.drop off).take s)))).run Tryd.prog w = .ok true w) :
    (Op.eqFields d (cellsOf' u8c X) (cellsOf' u8c X) (f :: fs)).run Tryd.prog w = (Op.eqFields d (cellsOf' u8c X) (cellsOf' u8c X) fs).run Tryd.prog w := by
  have m1 : f.name ≠ "_" := by simpa using hn
  have p1 := run_part_agg w hu hz X off
  rw [Op.eqFields, if_pos m1, ht, ho, Sem.run_bind, p1, Result.andThen_ok, Sem.run_bind, p1, Result.andThen_ok, Sem.run_bind, he, Result.andThen_ok, if_neg (by decide)]
theorem run_eql_st (w : World) {X : List Nat} (hX : X.length = 192) : (Op.equalIn 10000 59 (.agg (cellsOf' u8c X)) (.agg (cellsOf' u8c X))).run Tryd.prog w = .ok true w := by
  rw [run_equalIn_struct w 9999 _ _ _ fields_st stood_st]
  obtain ⟨f1, r1, e1, h1, hr1⟩ := List.map_eq_cons_iff.1 fields_st_list
  obtain ⟨f2, r2, e2, h2, hr2⟩ := List.map_eq_cons_iff.1 hr1
  obtain ⟨f3, r3, e3, h3, hr3⟩ := List.map_eq_cons_iff.1 hr2
  obtain ⟨f4, r4, e4, h4, hr4⟩ := List.map_eq_cons_iff.1 hr3
  obtain rfl := List.map_eq_nil_iff.1 hr4
  simp only [Prod.mk.injEq] at h1 h2 h3 h4
  have H : ∀ {x : List Nat}, x.length = 32 → (Op.equalIn 9999 23 (.agg (cellsOf' u8c x)) (.agg (cellsOf' u8c x))).run Tryd.prog w = .ok true w := fun {x} h => by rw [run_eql_h' 9997 w h h, decide_eq_true rfl]
  have B : ∀ {x : List Nat}, x.length = 64 → (Op.equalIn 9999 24 (.agg (cellsOf' u8c x)) (.agg (cellsOf' u8c x))).run Tryd.prog w = .ok true w := fun {x} h => by rw [run_eql_b' 9997 w h h, decide_eq_true rfl]
  rw [e1, e2, e3, e4, one_field 9999 w h1.1 h1.2.1 h1.2.2 Tryd.underlying23 size_32 (H (by rw [List.length_take, List.length_drop]; omega)), one_field 9999 w h2.1 h2.2.1 h2.2.2 Tryd.underlying23 size_32 (H (by rw [List.length_take, List.length_drop]; omega)),
    one_field 9999 w h3.1 h3.2.1 h3.2.2 Tryd.underlying24 size_64 (B (by rw [List.length_take, List.length_drop]; omega)), one_field 9999 w h4.1 h4.2.1 h4.2.2 Tryd.underlying24 size_64 (B (by rw [List.length_take, List.length_drop]; omega)), Op.eqFields, Sem.run_pure]
end
end Go.Proofs.YtcifnfffoiiceaaDoor
