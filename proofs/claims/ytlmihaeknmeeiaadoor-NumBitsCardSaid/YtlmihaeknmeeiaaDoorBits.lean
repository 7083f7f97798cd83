/-
  The set bits of a number, rising: the plain law; the walk of num.Bits.
-/
import Derived.Test.YtlmihaeknmeeiaaDoorTz
import Derived.Test.YtlmihaeknmeeiaaDoorOnes
import Derived.Test.YtlmihaeknmeeiaaDoorLen
import Derived.Test.YtlmihaeknmeeiaaDoorShort
namespace Go.Proofs.YtlmihaeknmeeiaaDoor
open Go.RowKit
set_option linter.unusedVariables false

/-- The set bits of x among f from the i-th on. -/
def posI : Nat → Nat → Nat → List Nat
  | _, 0, _ => []
  | i, f + 1, x => if x.testBit i = true then i :: posI (i + 1) f x else posI (i + 1) f x
def posL (x : Nat) : List Nat := posI 0 64 x
theorem posI_succ (i f x : Nat) : posI i (f + 1) x = if x.testBit i = true then i :: posI (i + 1) f x else posI (i + 1) f x := rfl
theorem posI_same : ∀ f i x y, (∀ j, i ≤ j → x.testBit j = y.testBit j) → posI i f x = posI i f y
  | 0, _, _, _, _ => rfl
  | f + 1, i, x, y, h => by
    rw [posI_succ, posI_succ, h i (Nat.le_refl _), posI_same f (i + 1) x y fun j hj => h j (by omega)]
theorem posI_split : ∀ d f i x, posI i (d + f) x = posI i d x ++ posI (i + d) f x
  | 0, f, i, x => by rw [Nat.zero_add, posI, List.nil_append, Nat.add_zero]
  | d + 1, f, i, x => by
    have ih := posI_split d f (i + 1) x
    rw [show d + 1 + f = (d + f) + 1 by omega, posI_succ i (d + f) x, posI_succ i d x, ih, show i + 1 + d = i + (d + 1) by omega]
    split <;> rfl
theorem posI_none : ∀ f i x, (∀ j, i ≤ j → j < i + f → x.testBit j = false) → posI i f x = []
  | 0, _, _, _ => rfl
  | f + 1, i, x, h => by
    rw [posI_succ, h i (Nat.le_refl _) (by omega), posI_none f (i + 1) x fun j h1 h2 => h j (by omega) (by omega)]
    simp
theorem posI_at {f i x : Nat} (h : x.testBit i = true) : posI i (f + 1) x = i :: posI (i + 1) f x := by rw [posI_succ, if_pos h]
theorem posI_len : ∀ f i x, (posI i f x).length = pop f (x / 2 ^ i)
  | 0, _, _ => rfl
  | f + 1, i, x => by
    have ih := posI_len f (i + 1) x
    have e : x / 2 ^ i / 2 = x / 2 ^ (i + 1) := by rw [Nat.div_div_eq_div_mul, Nat.pow_succ]
    have hb : x.testBit i = decide (x / 2 ^ i % 2 = 1) := Nat.testBit_eq_decide_div_mod_eq
    show _ = x / 2 ^ i % 2 + pop f (x / 2 ^ i / 2)
    rw [posI_succ, e, ← ih, hb]
    by_cases h : x / 2 ^ i % 2 = 1
    · rw [if_pos (decide_eq_true h), List.length_cons, h]; omega
    · rw [if_neg (by simpa using h)]; omega
theorem posL_len (x : Nat) : (posL x).length = ones x := by
  unfold posL ones
  rw [posI_len, Nat.pow_zero, Nat.div_one]
theorem posI_sum : ∀ f i x, ((posI i f x).map fun p => 2 ^ p).sum = x / 2 ^ i % 2 ^ f * 2 ^ i
  | 0, i, x => by simp [posI, Nat.mod_one]
  | f + 1, i, x => by
    have ih := posI_sum f (i + 1) x
    have hb : x.testBit i = decide (x / 2 ^ i % 2 = 1) := Nat.testBit_eq_decide_div_mod_eq
    have e : x / 2 ^ (i + 1) = x / 2 ^ i / 2 := by rw [Nat.div_div_eq_div_mul, Nat.pow_succ]
    rw [e] at ih
    generalize x / 2 ^ i = q at *
    have m : q % 2 ^ (f + 1) = q % 2 + 2 * (q / 2 % 2 ^ f) := by rw [Nat.pow_succ, Nat.mul_comm, Nat.mod_mul]
    have ih2 : ((posI (i + 1) f x).map fun p => 2 ^ p).sum = 2 * (q / 2 % 2 ^ f) * 2 ^ i := by
      rw [ih, Nat.pow_succ, Nat.mul_comm (2 ^ i) 2, ← Nat.mul_assoc, Nat.mul_comm _ 2]
    rw [m, Nat.add_mul, ← ih2, posI_succ, hb]
    by_cases h : q % 2 = 1
    · rw [if_pos (decide_eq_true h), List.map_cons, List.sum_cons, h, Nat.one_mul]
    · rw [if_neg (by simpa using h), show q % 2 = 0 by omega, Nat.zero_mul, Nat.zero_add]
theorem posL_sum {x : Nat} (h : x < 18446744073709551616) : ((posL x).map fun p => 2 ^ p).sum = x := by
  unfold posL
  rw [posI_sum, Nat.pow_zero, Nat.div_one, Nat.mul_one]
  exact Nat.mod_eq_of_lt h
theorem posI_lo : ∀ f i x p, p ∈ posI i f x → i ≤ p ∧ p < i + f
  | 0, _, _, _, h => by cases h
  | f + 1, i, x, p, h => by
    rw [posI_succ] at h
    split at h
    · rcases List.mem_cons.1 h with h | h
      · omega
      · have := posI_lo f (i + 1) x p h; omega
    · have := posI_lo f (i + 1) x p h; omega
theorem posI_rise : ∀ f i x k a b, (posI i f x)[k]? = some a → (posI i f x)[k + 1]? = some b → a < b
  | 0, _, _, _, _, _, h, _ => by simp [posI] at h
  | f + 1, i, x, k, a, b, h1, h2 => by
    rw [posI_succ] at h1 h2
    split at h1
    · rename_i hb
      rw [if_pos hb] at h2
      cases k with
      | zero =>
        simp only [List.getElem?_cons_zero, Option.some.injEq] at h1
        simp only [List.getElem?_cons_succ] at h2
        have := (posI_lo f (i + 1) x b (List.mem_of_getElem? h2)).1
        omega
      | succ k =>
        simp only [List.getElem?_cons_succ] at h1 h2
        exact posI_rise f (i + 1) x k a b h1 h2
    · rename_i hb
      rw [if_neg hb] at h2
      exact posI_rise f (i + 1) x k a b h1 h2
/-- The lowest comes first; behind it those of the number without it. -/
theorem posL_low {x : Nat} (h : x < 18446744073709551616) (h0 : x ≠ 0) : posL x = tzN x :: posL (x &&& (x - 1)) ∧ x &&& (x - 1) < x := by
  obtain ⟨ht, q, hq⟩ := tzN_spec h h0
  have hs := strike_low (tzN x) q
  rw [← hq] at hs
  generalize tzN x = t at *
  have e1 : posL x = t :: posI (t + 1) (63 - t) x := by
    have e0 : posL x = posI 0 (t + ((63 - t) + 1)) x := by unfold posL; congr 1; omega
    rw [e0, posI_split t _ 0 x, posI_none t 0 x (fun j _ hj => by rw [hq, tb_low]; simp; omega), List.nil_append, Nat.zero_add]
    exact posI_at (by rw [hq, tb_low, Nat.sub_self, tb_odd0]; simp)
  have e2 : posL (x &&& (x - 1)) = posI (t + 1) (63 - t) x := by
    have e0 : ∀ y, posL y = posI 0 ((t + 1) + (63 - t)) y := by intro y; unfold posL; congr 1; omega
    rw [e0, hs, posI_split (t + 1) (63 - t) 0 _, posI_none (t + 1) 0 _ (fun j _ hj => by
      rw [tb_low2]
      by_cases h : j < t
      · simp; omega
      · obtain rfl : j = t := by omega
        rw [Nat.sub_self, tb_even0]; simp), List.nil_append, Nat.zero_add]
    refine posI_same _ _ _ _ fun j hj => ?_
    rw [hq, tb_low, tb_low2]
    obtain ⟨s, hs⟩ : ∃ s, j - t = s + 1 := ⟨j - t - 1, by omega⟩
    rw [hs, tb_even, tb_odd]
  refine ⟨by rw [e1, e2], ?_⟩
  rw [hs]
  have hp := Nat.two_pow_pos t
  have : 2 ^ t * (2 * q + 1) = 2 ^ t * (2 * q) + 2 ^ t := by rw [Nat.mul_add, Nat.mul_one]
  omega
theorem posL_zero : posL 0 = [] := posI_none 64 0 0 (fun j _ _ => Nat.zero_testBit j)
/-- The highest comes last. -/
theorem posL_high {x : Nat} (h : x < 18446744073709551616) (h0 : x ≠ 0) : ∃ pre, posL x = pre ++ [lenN x - 1] := by
  obtain ⟨l1, l2, l3⟩ := lenN_spec h h0
  have l4 := lenN_le x h
  generalize lenN x = m at *
  obtain ⟨k, rfl⟩ : ∃ k, m = k + 1 := ⟨m - 1, by omega⟩
  rw [Nat.add_sub_cancel] at l2 ⊢
  refine ⟨posI 0 k x, ?_⟩
  have e0 : posL x = posI 0 (k + ((63 - k) + 1)) x := by unfold posL; congr 1; omega
  have hbit : x.testBit k = true := by
    rw [Nat.testBit_eq_decide_div_mod_eq]
    have h1 : 0 < x / 2 ^ k := Nat.div_pos l2 (Nat.two_pow_pos k)
    have h2 : x / 2 ^ k < 2 := by
      rw [Nat.div_lt_iff_lt_mul (Nat.two_pow_pos k), ← Nat.pow_succ']
      exact l3
    exact decide_eq_true (by omega)
  rw [e0, posI_split k _ 0 x, Nat.zero_add, posI_at hbit, posI_none (63 - k) (k + 1) x (fun j h1 h2 => Nat.testBit_lt_two_pow (Nat.lt_of_lt_of_le l3 (Nat.pow_le_pow_right (by decide) h1)))]
theorem posL_le (x : Nat) : (posL x).length ≤ 64 := by rw [posL_len]; unfold ones; exact pop_le 64 x

/-! ### num.Bits -/
theorem info_i64 : (Tryd.prog.info? 3).map (fun i => (i.zero, i.size, i.bytes)) = some (some (.int .i64 0), 1, 8) := by kernel_rfl
def i64s (l : List Nat) : List Value := l.map fun (c : Nat) => Value.int .i64 (c : Int)
def BiRel (x base : Nat) (w : World) (y v : Value) (wr : World) : Prop :=
  ∃ (m : Nat) (pre : List Nat), m < 18446744073709551616 ∧ y = .int .u64 m ∧ pre ++ posL m = posL x ∧
    wr.ownsRow base 3 1 v pre.length (i64s pre) ∧ Below base w wr
theorem Bits_any {x : Nat} (hx : x < 18446744073709551616) (w : World) (T : TabAt w) :
    Calls Tryd.prog 12 #[.int .u64 x] w fun e w' => ∃ v, e = .returned v ∧ w'.ownsRow w.heap.size 3 1 v (posL x).length (i64s (posL x)) ∧ Below w.heap.size w w' := by
  obtain ⟨i0, hi, hz0, hz1, hz2⟩ := info_parts info_i64
  generalize hB : w.heap.size = B
  have HB := Lib.hid hB
  have TT := Lib.hid T
  have HX := Lib.hid hx
  clear hB T hx
  go_enter Tryd.func12, Tryd.ntmps12
  go_wp2
  go_loopw [0, 3] (fun y v wr => BiRel x B w y v wr) (fun y _ _ => (intOf y).toNat)
  case atStart => exact ⟨x, [], HX.out, rfl, rfl, World.ownsRow_nil _ _ _ _, Below.refl _ _⟩
  case round =>
    obtain ⟨m, pre, hm, rfl, hpre, hown, hbel⟩ := hrel
    have hBw : B ≤ wr.heap.size := by rw [← HB.out]; exact hbel.size
    have hlen : pre.length ≤ 64 := by
      have := posL_le x
      rw [← hpre, List.length_append] at this
      omega
    have P := Lib.hid hpre
    have HM := Lib.hid hm
    by_cases h0 : m = 0
    · subst h0
      clear hpre hm
      have e : posL x = pre := by rw [← P.out, posL_zero, List.append_nil]
      have E := Lib.hid e
      clear e
      go_wp2
      go_ret
      refine ⟨_, rfl, ?_, hbel⟩
      rw [E.out]
      exact hown
    · obtain ⟨e1, e2⟩ := posL_low hm h0
      have hA := u64_and_nat m (m - 1) hm (by omega)
      have hw : IntKind.u64.wrap ((m : Int) - 1) = ((m - 1 : Nat) : Int) := by rw [wrap_u64]; omega
      have L := Low_any hm wr (TT.out.below (by rw [HB.out]; exact hbel))
      have ne : ((m : Int) != 0) = true := by rw [bne_iff_ne]; omega
      have N := Lib.hid e1
      have LT := Lib.hid e2
      generalize m &&& (m - 1) = y at *
      generalize tzN m = t at *
      clear hpre hm e1 e2
      go_wp2_with fail
      refine L.mono ?_
      rintro e w' ⟨rfl, rfl⟩
      go_wp2_with (at_builtin; refine wpList_append_own _ rfl _ _ 25 rfl B 3 i0 (.int .i64 0) 1 8 Tryd.underlying25 hi hz0 hz1 hz2 rfl (by decide) _ _ _ rfl (hown.alloc _) ⟨wr.heap.size, 0, none⟩ 1 1 [.int .i64 (t : Int)] rfl rfl (cell_new1 _ _ _) (one_int _ _) (by unfold maxLen; omega) (by omega) (by simp; omega) ?_; intro v' w1 hown1 hg1 _)
      go_roundw
      case rel =>
        refine ⟨y, pre ++ [t], by have := LT.out; have := HM.out; omega, by first | rfl | rw [hA], ?_, ?_, ?_⟩
        · rw [← P.out, N.out]; simp
        · simpa [i64s] using hown1
        · exact ((hbel.alloc hBw _).grown hg1 (by simp; omega) fun k hk => (hown.lt k hk).1)
      case measure =>
        have := LT.out
        simp [intOf]; omega
end Go.Proofs.YtlmihaeknmeeiaaDoor
