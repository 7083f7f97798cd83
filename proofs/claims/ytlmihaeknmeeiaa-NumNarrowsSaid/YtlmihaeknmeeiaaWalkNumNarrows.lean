/-
  massiflaw1.NumNarrows: the walk and its plain law.
-/
import Derived.Test.YtlmihaeknmeeiaaRefNarrow
namespace Go.Proofs.Ytlmihaeknmeeiaa
open Go.RowKit
set_option linter.unusedVariables false

theorem wrap_plain (x : Int) : IntKind.u64.wrap x = (plainN x : Int) := by rw [wrap_u64]; unfold plainN; omega
theorem field_of_bits {X Y : Nat} (hX : X < 18446744073709551616) (hY : Y < 18446744073709551616) {b : Nat} (h : ∀ i, i < b → i < 64 → bitsF X i = bitsF Y i) : fieldN X 0 b = fieldN Y 0 b := by
  apply eqB (fieldN_lt _ _ hX) (fieldN_lt _ _ hY)
  intro i hi
  rw [tb_fieldN _ _ hi, tb_fieldN _ _ hi]
  by_cases hb : (i : Int) < (b : Int)
  · have := h i (by omega) hi
    unfold bitsF at this
    have e : X.testBit i = Y.testBit i := by
      cases hx : X.testBit i <;> cases hy : Y.testBit i <;> simp_all
    have e2 : ((i : Int) + 0).toNat = i := by omega
    rw [e2, e]
  · simp only [hb, decide_false, Bool.and_false]

theorem narrows1 {x : Int} (h0 : -9223372036854775808 ≤ x) (h1 : x ≤ 9223372036854775807) (w : World) :
    Calls Try.prog 11 #[.int .i64 x, .int .i64 1] w fun e w' => e = .returned (.bool true) ∧ Below w.heap.size w w' := by
  have r0 : -9223372036854775808 ≤ narN x 1 := by rw [show narN x 1 = (x + 128) % 256 - 128 from rfl]; omega
  have r1 : narN x 1 ≤ 9223372036854775807 := by rw [show narN x 1 = (x + 128) % 256 - 128 from rfl]; omega
  have hid : narN (narN x 1) 1 = narN x 1 := by
    rw [show narN (narN x 1) 1 = ((narN x 1) + 128) % 256 - 128 from rfl, show narN x 1 = (x + 128) % 256 - 128 from rfl]
    omega
  have HI := Lib.hid hid
  have HF := Lib.hid (show fitsB (narN x 1) 1 = true by unfold fitsB; exact decide_eq_true ⟨by decide, by decide, hid⟩)
  have HQ := Lib.hid (show fieldN (plainN x) 0 8 = fieldN (plainN (narN x 1)) 0 8 from field_of_bits (plainN_lt x) (plainN_lt (narN x 1)) (b := 8) fun i hi _ => (nar_low1 x hi).symm)
  have HW1 := wrap_plain x
  have HW2 := Lib.hid (wrap_plain (narN x 1))
  clear hid
  by_cases hx : narN x 1 = x
  all_goals
    have hb : fitsB x 1 = (x == narN x 1) := by
      unfold fitsB
      rw [Bool.eq_iff_iff]
      simp only [decide_eq_true_eq, beq_iff_eq]
      omega
    have HF2 := Lib.hid hb
    have HX := Lib.hid hx
    clear hb hx
    generalize hy : narN x 1 = y at *
    have HY := Lib.hid hy
    clear hy
    go_enter Try.func11, Try.ntmps11
    go_wp2_with fail
    refine (Narrow_any _).mono ?_
    rintro e w' ⟨rfl, rfl⟩
    rw [HY.out, show narE 1 = 0 by decide]
    go_wp2_with fail
    refine (Narrow_any _).mono ?_
    rintro e w' ⟨rfl, rfl⟩
    rw [HI.out, show narE 1 = 0 by decide]
    go_wp2_with fail
    refine wp_loop_rounds 1 ?_
    rw [rounds_succ]
    go_wp2_with fail
    refine (Fits_any r0 r1 1 _).mono ?_
    rintro e w' ⟨rfl, rfl⟩
    rw [HF.out]
    go_wp2_with fail
    refine (Fits_any h0 h1 1 _).mono ?_
    rintro e w' ⟨rfl, rfl⟩
    rw [HF2.out]
    go_wp2_with fail
    refine (Field_any (plainN_lt x) (by omega) (by omega) (by omega) (by omega) _).mono ?_
    rintro e w' ⟨rfl, rfl⟩
    rw [HQ.out]
    go_wp2_with fail
    rw [HW2.out]
    refine (Field_any (plainN_lt y) (by omega) (by omega) (by omega) (by omega) _).mono ?_
    rintro e w' ⟨rfl, rfl⟩
    go_wp2_with fail
    refine (awake_any _).mono ?_
    rintro e w4 ⟨rfl, hb4⟩
    go_wp2
    go_ret
    exact ⟨rfl, hb4⟩

theorem narrows2 {x : Int} (h0 : -9223372036854775808 ≤ x) (h1 : x ≤ 9223372036854775807) (w : World) :
    Calls Try.prog 11 #[.int .i64 x, .int .i64 2] w fun e w' => e = .returned (.bool true) ∧ Below w.heap.size w w' := by
  have r0 : -9223372036854775808 ≤ narN x 2 := by rw [show narN x 2 = (x + 32768) % 65536 - 32768 from rfl]; omega
  have r1 : narN x 2 ≤ 9223372036854775807 := by rw [show narN x 2 = (x + 32768) % 65536 - 32768 from rfl]; omega
  have hid : narN (narN x 2) 2 = narN x 2 := by
    rw [show narN (narN x 2) 2 = ((narN x 2) + 32768) % 65536 - 32768 from rfl, show narN x 2 = (x + 32768) % 65536 - 32768 from rfl]
    omega
  have HI := Lib.hid hid
  have HF := Lib.hid (show fitsB (narN x 2) 2 = true by unfold fitsB; exact decide_eq_true ⟨by decide, by decide, hid⟩)
  have HQ := Lib.hid (show fieldN (plainN x) 0 16 = fieldN (plainN (narN x 2)) 0 16 from field_of_bits (plainN_lt x) (plainN_lt (narN x 2)) (b := 16) fun i hi _ => (nar_low2 x hi).symm)
  have HW1 := wrap_plain x
  have HW2 := Lib.hid (wrap_plain (narN x 2))
  clear hid
  by_cases hx : narN x 2 = x
  all_goals
    have hb : fitsB x 2 = (x == narN x 2) := by
      unfold fitsB
      rw [Bool.eq_iff_iff]
      simp only [decide_eq_true_eq, beq_iff_eq]
      omega
    have HF2 := Lib.hid hb
    have HX := Lib.hid hx
    clear hb hx
    generalize hy : narN x 2 = y at *
    have HY := Lib.hid hy
    clear hy
    go_enter Try.func11, Try.ntmps11
    go_wp2_with fail
    refine (Narrow_any _).mono ?_
    rintro e w' ⟨rfl, rfl⟩
    rw [HY.out, show narE 2 = 0 by decide]
    go_wp2_with fail
    refine (Narrow_any _).mono ?_
    rintro e w' ⟨rfl, rfl⟩
    rw [HI.out, show narE 2 = 0 by decide]
    go_wp2_with fail
    go_loop [9, 10] (fun v i => (v = .int .i64 8 ∧ i = .int .i64 2) ∨ (v = .int .i64 16 ∧ i = .int .i64 1)) (fun _ i => (intOf i).toNat)
    case atStart => exact .inl ⟨rfl, rfl⟩
    case round =>
      rcases hrel with ⟨rfl, rfl⟩ | ⟨rfl, rfl⟩
      · go_wp2
        go_round
        case rel => exact .inr (⟨rfl, rfl⟩)
        case measure => simp [intOf]
      · go_wp2_with fail
        refine (Fits_any r0 r1 2 _).mono ?_
        rintro e w' ⟨rfl, rfl⟩
        rw [HF.out]
        go_wp2_with fail
        refine (Fits_any h0 h1 2 _).mono ?_
        rintro e w' ⟨rfl, rfl⟩
        rw [HF2.out]
        go_wp2_with fail
        refine (Field_any (plainN_lt x) (by omega) (by omega) (by omega) (by omega) _).mono ?_
        rintro e w' ⟨rfl, rfl⟩
        rw [HQ.out]
        go_wp2_with fail
        rw [HW2.out]
        refine (Field_any (plainN_lt y) (by omega) (by omega) (by omega) (by omega) _).mono ?_
        rintro e w' ⟨rfl, rfl⟩
        go_wp2_with fail
        refine (awake_any _).mono ?_
        rintro e w4 ⟨rfl, hb4⟩
        go_wp2
        go_ret
        exact ⟨rfl, hb4⟩

theorem narrows3 {x : Int} (h0 : -9223372036854775808 ≤ x) (h1 : x ≤ 9223372036854775807) (w : World) :
    Calls Try.prog 11 #[.int .i64 x, .int .i64 3] w fun e w' => e = .returned (.bool true) ∧ Below w.heap.size w w' := by
  have r0 : -9223372036854775808 ≤ narN x 3 := by rw [show narN x 3 = (x + 2147483648) % 4294967296 - 2147483648 from rfl]; omega
  have r1 : narN x 3 ≤ 9223372036854775807 := by rw [show narN x 3 = (x + 2147483648) % 4294967296 - 2147483648 from rfl]; omega
  have hid : narN (narN x 3) 3 = narN x 3 := by
    rw [show narN (narN x 3) 3 = ((narN x 3) + 2147483648) % 4294967296 - 2147483648 from rfl, show narN x 3 = (x + 2147483648) % 4294967296 - 2147483648 from rfl]
    omega
  have HI := Lib.hid hid
  have HF := Lib.hid (show fitsB (narN x 3) 3 = true by unfold fitsB; exact decide_eq_true ⟨by decide, by decide, hid⟩)
  have HQ := Lib.hid (show fieldN (plainN x) 0 32 = fieldN (plainN (narN x 3)) 0 32 from field_of_bits (plainN_lt x) (plainN_lt (narN x 3)) (b := 32) fun i hi _ => (nar_low3 x hi).symm)
  have HW1 := wrap_plain x
  have HW2 := Lib.hid (wrap_plain (narN x 3))
  clear hid
  by_cases hx : narN x 3 = x
  all_goals
    have hb : fitsB x 3 = (x == narN x 3) := by
      unfold fitsB
      rw [Bool.eq_iff_iff]
      simp only [decide_eq_true_eq, beq_iff_eq]
      omega
    have HF2 := Lib.hid hb
    have HX := Lib.hid hx
    clear hb hx
    generalize hy : narN x 3 = y at *
    have HY := Lib.hid hy
    clear hy
    go_enter Try.func11, Try.ntmps11
    go_wp2_with fail
    refine (Narrow_any _).mono ?_
    rintro e w' ⟨rfl, rfl⟩
    rw [HY.out, show narE 3 = 0 by decide]
    go_wp2_with fail
    refine (Narrow_any _).mono ?_
    rintro e w' ⟨rfl, rfl⟩
    rw [HI.out, show narE 3 = 0 by decide]
    go_wp2_with fail
    go_loop [9, 10] (fun v i => (v = .int .i64 8 ∧ i = .int .i64 3) ∨ (v = .int .i64 16 ∧ i = .int .i64 2) ∨ (v = .int .i64 32 ∧ i = .int .i64 1)) (fun _ i => (intOf i).toNat)
    case atStart => exact .inl ⟨rfl, rfl⟩
    case round =>
      rcases hrel with ⟨rfl, rfl⟩ | ⟨rfl, rfl⟩ | ⟨rfl, rfl⟩
      · go_wp2
        go_round
        case rel => exact .inr (.inl ⟨rfl, rfl⟩)
        case measure => simp [intOf]
      · go_wp2
        go_round
        case rel => exact .inr (.inr (⟨rfl, rfl⟩))
        case measure => simp [intOf]
      · go_wp2_with fail
        refine (Fits_any r0 r1 3 _).mono ?_
        rintro e w' ⟨rfl, rfl⟩
        rw [HF.out]
        go_wp2_with fail
        refine (Fits_any h0 h1 3 _).mono ?_
        rintro e w' ⟨rfl, rfl⟩
        rw [HF2.out]
        go_wp2_with fail
        refine (Field_any (plainN_lt x) (by omega) (by omega) (by omega) (by omega) _).mono ?_
        rintro e w' ⟨rfl, rfl⟩
        rw [HQ.out]
        go_wp2_with fail
        rw [HW2.out]
        refine (Field_any (plainN_lt y) (by omega) (by omega) (by omega) (by omega) _).mono ?_
        rintro e w' ⟨rfl, rfl⟩
        go_wp2_with fail
        refine (awake_any _).mono ?_
        rintro e w4 ⟨rfl, hb4⟩
        go_wp2
        go_ret
        exact ⟨rfl, hb4⟩

theorem narrows4 {x : Int} (h0 : -9223372036854775808 ≤ x) (h1 : x ≤ 9223372036854775807) (w : World) :
    Calls Try.prog 11 #[.int .i64 x, .int .i64 4] w fun e w' => e = .returned (.bool true) ∧ Below w.heap.size w w' := by
  have r0 : -9223372036854775808 ≤ narN x 4 := by rw [show narN x 4 = x from rfl]; omega
  have r1 : narN x 4 ≤ 9223372036854775807 := by rw [show narN x 4 = x from rfl]; omega
  have hid : narN (narN x 4) 4 = narN x 4 := by
    rw [show narN (narN x 4) 4 = (narN x 4) from rfl, show narN x 4 = x from rfl]
    
  have HI := Lib.hid hid
  have HF := Lib.hid (show fitsB (narN x 4) 4 = true by unfold fitsB; exact decide_eq_true ⟨by decide, by decide, hid⟩)
  have HQ := Lib.hid (show fieldN (plainN x) 0 64 = fieldN (plainN (narN x 4)) 0 64 from field_of_bits (plainN_lt x) (plainN_lt (narN x 4)) (b := 64) fun i hi _ => (nar_low4 x hi).symm)
  have HW1 := wrap_plain x
  have HW2 := Lib.hid (wrap_plain (narN x 4))
  clear hid
  by_cases hx : narN x 4 = x
  all_goals
    have hb : fitsB x 4 = (x == narN x 4) := by
      unfold fitsB
      rw [Bool.eq_iff_iff]
      simp only [decide_eq_true_eq, beq_iff_eq]
      omega
    have HF2 := Lib.hid hb
    have HX := Lib.hid hx
    clear hb hx
    generalize hy : narN x 4 = y at *
    have HY := Lib.hid hy
    clear hy
    go_enter Try.func11, Try.ntmps11
    go_wp2_with fail
    refine (Narrow_any _).mono ?_
    rintro e w' ⟨rfl, rfl⟩
    rw [HY.out, show narE 4 = 0 by decide]
    go_wp2_with fail
    refine (Narrow_any _).mono ?_
    rintro e w' ⟨rfl, rfl⟩
    rw [HI.out, show narE 4 = 0 by decide]
    go_wp2_with fail
    go_loop [9, 10] (fun v i => (v = .int .i64 8 ∧ i = .int .i64 4) ∨ (v = .int .i64 16 ∧ i = .int .i64 3) ∨ (v = .int .i64 32 ∧ i = .int .i64 2) ∨ (v = .int .i64 64 ∧ i = .int .i64 1)) (fun _ i => (intOf i).toNat)
    case atStart => exact .inl ⟨rfl, rfl⟩
    case round =>
      rcases hrel with ⟨rfl, rfl⟩ | ⟨rfl, rfl⟩ | ⟨rfl, rfl⟩ | ⟨rfl, rfl⟩
      · go_wp2
        go_round
        case rel => exact .inr (.inl ⟨rfl, rfl⟩)
        case measure => simp [intOf]
      · go_wp2
        go_round
        case rel => exact .inr (.inr (.inl ⟨rfl, rfl⟩))
        case measure => simp [intOf]
      · go_wp2
        go_round
        case rel => exact .inr (.inr (.inr (⟨rfl, rfl⟩)))
        case measure => simp [intOf]
      · go_wp2_with fail
        refine (Fits_any r0 r1 4 _).mono ?_
        rintro e w' ⟨rfl, rfl⟩
        rw [HF.out]
        go_wp2_with fail
        refine (Fits_any h0 h1 4 _).mono ?_
        rintro e w' ⟨rfl, rfl⟩
        rw [HF2.out]
        go_wp2_with fail
        refine (Field_any (plainN_lt x) (by omega) (by omega) (by omega) (by omega) _).mono ?_
        rintro e w' ⟨rfl, rfl⟩
        rw [HQ.out]
        go_wp2_with fail
        rw [HW2.out]
        refine (Field_any (plainN_lt y) (by omega) (by omega) (by omega) (by omega) _).mono ?_
        rintro e w' ⟨rfl, rfl⟩
        go_wp2_with fail
        refine (awake_any _).mono ?_
        rintro e w4 ⟨rfl, hb4⟩
        go_wp2
        go_ret
        exact ⟨rfl, hb4⟩

theorem narrows5 {x : Int} (h0 : -9223372036854775808 ≤ x) (h1 : x ≤ 9223372036854775807) (w : World) :
    Calls Try.prog 11 #[.int .i64 x, .int .i64 5] w fun e w' => e = .returned (.bool true) ∧ Below w.heap.size w w' := by
  have r0 : -9223372036854775808 ≤ narN x 5 := by rw [show narN x 5 = x % 256 from rfl]; omega
  have r1 : narN x 5 ≤ 9223372036854775807 := by rw [show narN x 5 = x % 256 from rfl]; omega
  have hid : narN (narN x 5) 5 = narN x 5 := by
    rw [show narN (narN x 5) 5 = (narN x 5) % 256 from rfl, show narN x 5 = x % 256 from rfl]
    omega
  have HI := Lib.hid hid
  have HF := Lib.hid (show fitsB (narN x 5) 5 = true by unfold fitsB; exact decide_eq_true ⟨by decide, by decide, hid⟩)
  have HQ := Lib.hid (show fieldN (plainN x) 0 8 = fieldN (plainN (narN x 5)) 0 8 from field_of_bits (plainN_lt x) (plainN_lt (narN x 5)) (b := 8) fun i hi _ => (nar_low5 x hi).symm)
  have HW1 := wrap_plain x
  have HW2 := Lib.hid (show ((plainN (narN x 5) : Nat) : Int) = narN x 5 by rw [← wrap_plain, wrap_u64, show narN x 5 = x % 256 from rfl]; omega)
  clear hid
  by_cases hx : narN x 5 = x
  all_goals
    have hb : fitsB x 5 = (x == narN x 5) := by
      unfold fitsB
      rw [Bool.eq_iff_iff]
      simp only [decide_eq_true_eq, beq_iff_eq]
      omega
    have HF2 := Lib.hid hb
    have HX := Lib.hid hx
    clear hb hx
    have hpos : 0 ≤ narN x 5 := by rw [show narN x 5 = x % 256 from rfl]; omega
    generalize hy : narN x 5 = y at *
    have HY := Lib.hid hy
    clear hy
    go_enter Try.func11, Try.ntmps11
    go_wp2_with fail
    refine (Narrow_any _).mono ?_
    rintro e w' ⟨rfl, rfl⟩
    rw [HY.out, show narE 5 = 0 by decide]
    go_wp2_with fail
    refine (Narrow_any _).mono ?_
    rintro e w' ⟨rfl, rfl⟩
    rw [HI.out, show narE 5 = 0 by decide]
    go_wp2_with fail
    refine wp_loop_rounds 1 ?_
    rw [rounds_succ]
    go_wp2_with fail
    refine (Fits_any r0 r1 5 _).mono ?_
    rintro e w' ⟨rfl, rfl⟩
    rw [HF.out]
    go_wp2_with fail
    refine (Fits_any h0 h1 5 _).mono ?_
    rintro e w' ⟨rfl, rfl⟩
    rw [HF2.out]
    go_wp2_with fail
    refine (Field_any (plainN_lt x) (by omega) (by omega) (by omega) (by omega) _).mono ?_
    rintro e w' ⟨rfl, rfl⟩
    rw [HQ.out]
    go_wp2_with fail
    rw [show Value.int IntKind.u64 y = Value.int IntKind.u64 ((plainN y : Nat) : Int) from by rw [HW2.out]]
    refine (Field_any (plainN_lt y) (by omega) (by omega) (by omega) (by omega) _).mono ?_
    rintro e w' ⟨rfl, rfl⟩
    go_wp2_with fail
    refine (awake_any _).mono ?_
    rintro e w4 ⟨rfl, hb4⟩
    go_wp2
    go_ret
    exact ⟨rfl, hb4⟩

theorem narrows6 {x : Int} (h0 : -9223372036854775808 ≤ x) (h1 : x ≤ 9223372036854775807) (w : World) :
    Calls Try.prog 11 #[.int .i64 x, .int .i64 6] w fun e w' => e = .returned (.bool true) ∧ Below w.heap.size w w' := by
  have r0 : -9223372036854775808 ≤ narN x 6 := by rw [show narN x 6 = x % 65536 from rfl]; omega
  have r1 : narN x 6 ≤ 9223372036854775807 := by rw [show narN x 6 = x % 65536 from rfl]; omega
  have hid : narN (narN x 6) 6 = narN x 6 := by
    rw [show narN (narN x 6) 6 = (narN x 6) % 65536 from rfl, show narN x 6 = x % 65536 from rfl]
    omega
  have HI := Lib.hid hid
  have HF := Lib.hid (show fitsB (narN x 6) 6 = true by unfold fitsB; exact decide_eq_true ⟨by decide, by decide, hid⟩)
  have HQ := Lib.hid (show fieldN (plainN x) 0 16 = fieldN (plainN (narN x 6)) 0 16 from field_of_bits (plainN_lt x) (plainN_lt (narN x 6)) (b := 16) fun i hi _ => (nar_low6 x hi).symm)
  have HW1 := wrap_plain x
  have HW2 := Lib.hid (show ((plainN (narN x 6) : Nat) : Int) = narN x 6 by rw [← wrap_plain, wrap_u64, show narN x 6 = x % 65536 from rfl]; omega)
  clear hid
  by_cases hx : narN x 6 = x
  all_goals
    have hb : fitsB x 6 = (x == narN x 6) := by
      unfold fitsB
      rw [Bool.eq_iff_iff]
      simp only [decide_eq_true_eq, beq_iff_eq]
      omega
    have HF2 := Lib.hid hb
    have HX := Lib.hid hx
    clear hb hx
    have hpos : 0 ≤ narN x 6 := by rw [show narN x 6 = x % 65536 from rfl]; omega
    generalize hy : narN x 6 = y at *
    have HY := Lib.hid hy
    clear hy
    go_enter Try.func11, Try.ntmps11
    go_wp2_with fail
    refine (Narrow_any _).mono ?_
    rintro e w' ⟨rfl, rfl⟩
    rw [HY.out, show narE 6 = 0 by decide]
    go_wp2_with fail
    refine (Narrow_any _).mono ?_
    rintro e w' ⟨rfl, rfl⟩
    rw [HI.out, show narE 6 = 0 by decide]
    go_wp2_with fail
    go_loop [9, 10] (fun v i => (v = .int .i64 8 ∧ i = .int .i64 6) ∨ (v = .int .i64 16 ∧ i = .int .i64 5)) (fun _ i => (intOf i).toNat)
    case atStart => exact .inl ⟨rfl, rfl⟩
    case round =>
      rcases hrel with ⟨rfl, rfl⟩ | ⟨rfl, rfl⟩
      · go_wp2
        go_round
        case rel => exact .inr (⟨rfl, rfl⟩)
        case measure => simp [intOf]
      · go_wp2_with fail
        refine (Fits_any r0 r1 6 _).mono ?_
        rintro e w' ⟨rfl, rfl⟩
        rw [HF.out]
        go_wp2_with fail
        refine (Fits_any h0 h1 6 _).mono ?_
        rintro e w' ⟨rfl, rfl⟩
        rw [HF2.out]
        go_wp2_with fail
        refine (Field_any (plainN_lt x) (by omega) (by omega) (by omega) (by omega) _).mono ?_
        rintro e w' ⟨rfl, rfl⟩
        rw [HQ.out]
        go_wp2_with fail
        rw [show Value.int IntKind.u64 y = Value.int IntKind.u64 ((plainN y : Nat) : Int) from by rw [HW2.out]]
        refine (Field_any (plainN_lt y) (by omega) (by omega) (by omega) (by omega) _).mono ?_
        rintro e w' ⟨rfl, rfl⟩
        go_wp2_with fail
        refine (awake_any _).mono ?_
        rintro e w4 ⟨rfl, hb4⟩
        go_wp2
        go_ret
        exact ⟨rfl, hb4⟩

theorem narrows7 {x : Int} (h0 : -9223372036854775808 ≤ x) (h1 : x ≤ 9223372036854775807) (w : World) :
    Calls Try.prog 11 #[.int .i64 x, .int .i64 7] w fun e w' => e = .returned (.bool true) ∧ Below w.heap.size w w' := by
  have r0 : -9223372036854775808 ≤ narN x 7 := by rw [show narN x 7 = x % 4294967296 from rfl]; omega
  have r1 : narN x 7 ≤ 9223372036854775807 := by rw [show narN x 7 = x % 4294967296 from rfl]; omega
  have hid : narN (narN x 7) 7 = narN x 7 := by
    rw [show narN (narN x 7) 7 = (narN x 7) % 4294967296 from rfl, show narN x 7 = x % 4294967296 from rfl]
    omega
  have HI := Lib.hid hid
  have HF := Lib.hid (show fitsB (narN x 7) 7 = true by unfold fitsB; exact decide_eq_true ⟨by decide, by decide, hid⟩)
  have HQ := Lib.hid (show fieldN (plainN x) 0 32 = fieldN (plainN (narN x 7)) 0 32 from field_of_bits (plainN_lt x) (plainN_lt (narN x 7)) (b := 32) fun i hi _ => (nar_low7 x hi).symm)
  have HW1 := wrap_plain x
  have HW2 := Lib.hid (show ((plainN (narN x 7) : Nat) : Int) = narN x 7 by rw [← wrap_plain, wrap_u64, show narN x 7 = x % 4294967296 from rfl]; omega)
  clear hid
  by_cases hx : narN x 7 = x
  all_goals
    have hb : fitsB x 7 = (x == narN x 7) := by
      unfold fitsB
      rw [Bool.eq_iff_iff]
      simp only [decide_eq_true_eq, beq_iff_eq]
      omega
    have HF2 := Lib.hid hb
    have HX := Lib.hid hx
    clear hb hx
    have hpos : 0 ≤ narN x 7 := by rw [show narN x 7 = x % 4294967296 from rfl]; omega
    generalize hy : narN x 7 = y at *
    have HY := Lib.hid hy
    clear hy
    go_enter Try.func11, Try.ntmps11
    go_wp2_with fail
    refine (Narrow_any _).mono ?_
    rintro e w' ⟨rfl, rfl⟩
    rw [HY.out, show narE 7 = 0 by decide]
    go_wp2_with fail
    refine (Narrow_any _).mono ?_
    rintro e w' ⟨rfl, rfl⟩
    rw [HI.out, show narE 7 = 0 by decide]
    go_wp2_with fail
    go_loop [9, 10] (fun v i => (v = .int .i64 8 ∧ i = .int .i64 7) ∨ (v = .int .i64 16 ∧ i = .int .i64 6) ∨ (v = .int .i64 32 ∧ i = .int .i64 5)) (fun _ i => (intOf i).toNat)
    case atStart => exact .inl ⟨rfl, rfl⟩
    case round =>
      rcases hrel with ⟨rfl, rfl⟩ | ⟨rfl, rfl⟩ | ⟨rfl, rfl⟩
      · go_wp2
        go_round
        case rel => exact .inr (.inl ⟨rfl, rfl⟩)
        case measure => simp [intOf]
      · go_wp2
        go_round
        case rel => exact .inr (.inr (⟨rfl, rfl⟩))
        case measure => simp [intOf]
      · go_wp2_with fail
        refine (Fits_any r0 r1 7 _).mono ?_
        rintro e w' ⟨rfl, rfl⟩
        rw [HF.out]
        go_wp2_with fail
        refine (Fits_any h0 h1 7 _).mono ?_
        rintro e w' ⟨rfl, rfl⟩
        rw [HF2.out]
        go_wp2_with fail
        refine (Field_any (plainN_lt x) (by omega) (by omega) (by omega) (by omega) _).mono ?_
        rintro e w' ⟨rfl, rfl⟩
        rw [HQ.out]
        go_wp2_with fail
        rw [show Value.int IntKind.u64 y = Value.int IntKind.u64 ((plainN y : Nat) : Int) from by rw [HW2.out]]
        refine (Field_any (plainN_lt y) (by omega) (by omega) (by omega) (by omega) _).mono ?_
        rintro e w' ⟨rfl, rfl⟩
        go_wp2_with fail
        refine (awake_any _).mono ?_
        rintro e w4 ⟨rfl, hb4⟩
        go_wp2
        go_ret
        exact ⟨rfl, hb4⟩


theorem walkNumNarrows (a0 a1 : Int) (w0 : (Lit.int .i64 a0).wf = true) (w1 : (Lit.int .i64 a1).wf = true) (w : World) :
    Calls Try.prog 11 #[.int .i64 a0, .int .i64 a1] w fun e w' => e = .returned (.bool true) ∧ Below w.heap.size w w' := by
  obtain ⟨h0, h1⟩ := rng_i64 w0
  clear w0 w1
  by_cases k1 : a1 = 1
  · subst k1; exact narrows1 h0 h1 w
  by_cases k2 : a1 = 2
  · subst k2; exact narrows2 h0 h1 w
  by_cases k3 : a1 = 3
  · subst k3; exact narrows3 h0 h1 w
  by_cases k4 : a1 = 4
  · subst k4; exact narrows4 h0 h1 w
  by_cases k5 : a1 = 5
  · subst k5; exact narrows5 h0 h1 w
  by_cases k6 : a1 = 6
  · subst k6; exact narrows6 h0 h1 w
  by_cases k7 : a1 = 7
  · subst k7; exact narrows7 h0 h1 w
  have hk : ¬ (1 ≤ a1 ∧ a1 ≤ 7) := by omega
  have E1 := Lib.hid (nar_no (x := a0) hk)
  have E2 := Lib.hid (narE_no hk)
  have E3 := Lib.hid (show fitsB a0 a1 = false by unfold fitsB; exact decide_eq_false (fun h => hk ⟨h.1, h.2.1⟩))
  clear k1 k2 k3 k4 k5 k6 k7
  by_cases c1 : a1 < 1
  all_goals
    have c2 : 1 ≤ a1 → 7 < a1 := by omega
    first | skip | (have c3 : 7 < a1 := by omega)
    clear hk
    go_enter Try.func11, Try.ntmps11
    go_wp2_with fail
    refine (Narrow_any _).mono ?_
    rintro e w' ⟨rfl, rfl⟩
    rw [E1.out, E2.out]
    go_wp2_with fail
    refine (Fits_any h0 h1 _ _).mono ?_
    rintro e w' ⟨rfl, rfl⟩
    rw [E3.out]
    go_wp2_with fail
    refine (awake_any _).mono ?_
    rintro e w4 ⟨rfl, hb4⟩
    go_wp2
    go_ret
    exact ⟨rfl, hb4⟩
end Go.Proofs.Ytlmihaeknmeeiaa
