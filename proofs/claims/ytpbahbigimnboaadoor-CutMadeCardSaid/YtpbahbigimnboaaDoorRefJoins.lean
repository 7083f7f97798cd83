/-
  The walk of massifref4.Joins.
-/
import Derived.Test.YtpbahbigimnboaaDoorJoins
import Derived.Test.YtpbahbigimnboaaDoorRefSpan
namespace Go.Proofs.YtpbahbigimnboaaDoor
open Go.RowKit
set_option linter.unusedVariables false

theorem joinF_one (n y : Nat) : joinF n y 1 = [] := by
  unfold joinF
  rw [if_neg (fun h => h.1 (by rw [Nat.pow_zero, Nat.mod_one]))]
  rfl
def JrRel (n y B : Nat) (w : World) (v h : Value) (wr : World) : Prop :=
  ∃ c : Nat, 1 ≤ c ∧ c ≤ 63 ∧ h = .int .i64 (c : Int) ∧ wr.ownsRow B 28 2 v (joinF n y c).length (spotC (joinF n y c)) ∧ Below B w wr
theorem refJoins_no {n k : Nat} (hn : n < 18446744073709551616) (h : 4611686018427387904 < n + k) (w : World) :
    Calls Tryd.prog 10 #[.int .u64 n, .int .u64 k] w fun e w' => e = .returned (.slice none 0 0) ∧ w = w' := by
  by_cases h1 : 4611686018427387904 < n
  · have i0 : (4611686018427387904 : Int) < (n : Int) := by omega
    go_enter Tryd.func10, Tryd.ntmps10
    go_wp2
    go_ret
    exact ⟨rfl, rfl⟩
  · have i0 : decide ((4611686018427387904 : Int) < (n : Int)) = false := decide_eq_false (by omega)
    have i1 : (n : Int) ≤ 4611686018427387904 := by omega
    have i2 : (4611686018427387904 : Int) - (n : Int) < (k : Int) := by omega
    have i3 : (0 : Int) ≤ 4611686018427387904 - (n : Int) := by omega
    clear h1 h hn
    go_enter Tryd.func10, Tryd.ntmps10
    go_wp2
    go_ret
    exact ⟨rfl, rfl⟩
theorem refJoins_yes {n k : Nat} (h : n + k ≤ 4611686018427387904) (w : World) :
    Calls Tryd.prog 10 #[.int .u64 n, .int .u64 k] w fun e w' => ∃ v, e = .returned v ∧ w'.ownsRow w.heap.size 28 2 v (joinsL n (n + k)).length (spotC (joinsL n (n + k))) ∧ Below w.heap.size w w' := by
  generalize hB : w.heap.size = B
  have HB := Lib.hid hB
  clear hB
  obtain ⟨i0, hi, hz0, hz1, hz2⟩ := info_parts info_spot
  have a0 : decide ((4611686018427387904 : Int) < (n : Int)) = false := decide_eq_false (by omega)
  have a1 : (n : Int) ≤ 4611686018427387904 := by omega
  have a2 : decide ((4611686018427387904 : Int) - (n : Int) < (k : Int)) = false := decide_eq_false (by omega)
  have a3 : (0 : Int) ≤ 4611686018427387904 - (n : Int) := by omega
  have a4 : (n : Int) + (k : Int) ≤ 4611686018427387904 := by omega
  have a5 : (k : Int) ≤ 4611686018427387904 := by omega
  have a6 : (k : Int) ≤ 4611686018427387904 - (n : Int) := by omega
  have J1 := Lib.hid (joinF_one n (n + k))
  go_enter Tryd.func10, Tryd.ntmps10
  go_wp2
  go_loopw [5, 6] (fun v h wr => JrRel n (n + k) B w v h wr) (fun _ h _ => 63 - (intOf h).toNat)
  case atStart => exact ⟨1, by omega, by omega, rfl, by rw [J1.out]; exact World.ownsRow_nil _ _ _ _, Below.refl _ _⟩
  case round =>
    obtain ⟨c, c1, c2, rfl, hown, hbel⟩ := hrel
    have hBw : B ≤ wr.heap.size := by rw [← HB.out]; exact hbel.size
    by_cases hc : c ≤ 62
    · have ci : (c : Int) ≤ 62 := by omega
      have P := power_any (h := c) (by omega)
      have hl := joinF_len n (n + k) c
      have p0 := Nat.two_pow_pos c
      have dv : (n : Int) / ((2 ^ c : Nat) : Int) = ((n / 2 ^ c : Nat) : Int) := (Int.natCast_ediv n (2 ^ c)).symm
      have rm : (n : Int) % ((2 ^ c : Nat) : Int) = ((n % 2 ^ c : Nat) : Int) := rfl
      have qle := Nat.div_le_self n (2 ^ c)
      have qi : ((n / 2 ^ c : Nat) : Int) ≤ 4611686018427387904 := by omega
      have pz : (((2 ^ c : Nat) : Int) == 0) = false := by rw [beq_eq_false_iff_ne]; omega
      have pz2 : (0 : Int) < ((2 ^ c : Nat) : Int) := by omega
      have STEP : joinF n (n + k) (c + 1) = if isJoin n (n + k) c then joinF n (n + k) c ++ [(c, n / 2 ^ c)] else joinF n (n + k) c := rfl
      have HS := Lib.hid STEP
      clear STEP qle
      generalize hL : joinF n (n + k) c = L at *
      have HL := Lib.hid hL
      clear hL
      have J : isJoin n (n + k) c ↔ n % 2 ^ c ≠ 0 ∧ (n / 2 ^ c + 1) * 2 ^ c ≤ n + k := Iff.rfl
      have ub : (n / 2 ^ c + 1) * 2 ^ c ≤ n + 2 ^ c := by
        rw [Nat.add_mul, Nat.one_mul]
        have := Nat.div_mul_le_self n (2 ^ c)
        omega
      have p62 : 2 ^ c ≤ 2 ^ 62 := Nat.pow_le_pow_right (by decide) hc
      have e62 : (2 : Nat) ^ 62 = 4611686018427387904 := by decide
      have mu : (((n / 2 ^ c : Nat) : Int) + 1) * ((2 ^ c : Nat) : Int) = (((n / 2 ^ c + 1) * 2 ^ c : Nat) : Int) := by push_cast; rfl
      have mn : (n / 2 ^ c + 1) * 2 ^ c ≤ 9223372036854775808 := by omega
      have mi : (((n / 2 ^ c + 1) * 2 ^ c : Nat) : Int) ≤ 9223372036854775808 := Int.ofNat_le.2 mn
      clear mn
      have KEY : ∃ q p r m : Nat, n / 2 ^ c = q ∧ 2 ^ c = p ∧ n % 2 ^ c = r ∧ (n / 2 ^ c + 1) * 2 ^ c = m := ⟨_, _, _, _, rfl, rfl, rfl, rfl⟩
      obtain ⟨q, p, r, m, eq, ep, er, em⟩ := KEY
      rw [em] at J mu mi
      rw [eq] at dv qi mu
      rw [er] at rm J
      rw [ep] at P dv rm pz pz2 mu
      have EQ := Lib.hid eq
      clear ep er em ub p62 e62 p0 eq
      by_cases hr : r = 0
      · subst hr
        have nj : ¬ isJoin n (n + k) c := fun h => (J.1 h).1 rfl
        have HN := Lib.hid nj
        clear J nj mu mi
        go_wp2_with fail
        refine (P _).mono ?_
        rintro e w' ⟨rfl, rfl⟩
        go_wp2
        go_roundw
        case rel => exact ⟨c + 1, by omega, by omega, by go_num, by rw [HS.out, if_neg HN.out]; exact hown.alloc _, hbel.alloc hBw _⟩
        case measure => simp [intOf]; omega
      · have hr2 : ((r : Int) != 0) = true := by rw [bne_iff_ne]; omega
        have hr3 : 0 < r := by omega
        have hr4 : (0 : Int) < (r : Int) := by omega
        by_cases hm : m ≤ n + k
        · have hm2 : (m : Int) ≤ (n : Int) + (k : Int) := by omega
          have HN := Lib.hid (J.2 ⟨hr, hm⟩)
          clear J hr hm
          go_wp2_with fail
          refine (P _).mono ?_
          rintro e w' ⟨rfl, rfl⟩
          go_wp2_with (at_builtin; refine wpList_append_own _ rfl _ _ 23 rfl B 28 i0 (.agg #[.int .u8 0, .int .u64 0]) 2 16 Tryd.underlying23 hi hz0 hz1 hz2 rfl (by decide) _ _ _ rfl ((hown.alloc _).alloc _) ⟨wr.heap.size + 1, 0, none⟩ 1 1 [.int .u8 (c : Int), .int .u64 (q : Int)] rfl rfl (by have := cell_new2 (wr.alloc (.cells #[.int .u8 (c : Int), .int .u64 (q : Int)] 28 (0, 0))) (.int .u8 (c : Int)) (.int .u64 (q : Int)) 28; simpa using this) (two_ints _ _ _ _) (by unfold maxLen; omega) (by omega) (by simp; omega) ?_; intro v' w2 hown2 hg2 _)
          go_roundw
          case rel =>
            refine ⟨c + 1, by omega, by omega, by go_num, ?_, ((hbel.alloc hBw _).alloc (by simp; omega) _).grown hg2 (by simp; omega) fun k hk => (hown.lt k hk).1⟩
            rw [HS.out, if_pos HN.out, EQ.out, spotC_append, List.length_append]
            exact hown2
          case measure => simp [intOf]; omega
        · have hm2 : decide ((m : Int) ≤ (n : Int) + (k : Int)) = false := decide_eq_false (by omega)
          have hm3 : (n : Int) + (k : Int) < (m : Int) := by omega
          have HN := Lib.hid (fun h => hm (J.1 h).2 : ¬ isJoin n (n + k) c)
          clear J hr hm
          go_wp2_with fail
          refine (P _).mono ?_
          rintro e w' ⟨rfl, rfl⟩
          go_wp2
          go_roundw
          case rel => exact ⟨c + 1, by omega, by omega, by go_num, by rw [HS.out, if_neg HN.out]; exact hown.alloc _, hbel.alloc hBw _⟩
          case measure => simp [intOf]; omega
    · obtain rfl : c = 63 := by omega
      go_wp2
      go_ret
      exact ⟨_, rfl, hown, hbel⟩
end Go.Proofs.YtpbahbigimnboaaDoor
