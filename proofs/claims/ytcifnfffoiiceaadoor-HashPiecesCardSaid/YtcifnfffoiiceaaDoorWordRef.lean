/-
  The walks of the reference's words: power, rotr, shr, xor, ch, maj, Width.
-/
import Derived.Test.YtcifnfffoiiceaaDoorSha
import Derived.Test.YtcifnfffoiiceaaDoorNum
import Derived.RegionTactic
import Derived.Deep.QuietTactic
import Derived.BigQuiet
namespace Go.Proofs.YtcifnfffoiiceaaDoor
open Go.RowKit
set_option linter.unusedVariables false

theorem pow2_any {h : Nat} (hh : h ≤ 63) (w : World) :
    Calls Tryd.prog 67 #[.int .i64 h] w fun e w' => e = .returned (.int .u64 ((2 ^ h : Nat) : Int)) ∧ w' = w := by
  go_enter Tryd.func67, Tryd.ntmps67
  go_wp2
  go_loop [3, 4] (fun p i => ∃ k : Nat, k ≤ h ∧ i = .int .i64 k ∧ p = .int .u64 ((2 ^ k : Nat) : Int)) (fun _ i => h - (intOf i).toNat)
  case atStart => exact ⟨0, Nat.zero_le _, rfl, rfl⟩
  case round =>
    obtain ⟨k, hk, rfl, rfl⟩ := hrel
    by_cases hlt : k < h
    · have hi : (k : Int) < (h : Int) := by omega
      have hb : 2 ^ k ≤ 2 ^ 62 := Nat.pow_le_pow_right (by decide) (by omega)
      have e62 : (2 : Nat) ^ 62 = 4611686018427387904 := by decide
      have bi : ((2 ^ k : Nat) : Int) ≤ 4611686018427387904 := by omega
      have E := Lib.hid (show (2 ^ (k + 1) : Nat) = 2 * 2 ^ k by rw [Nat.pow_succ, Nat.mul_comm])
      clear hb e62
      generalize 2 ^ k = p at *
      go_wp2
      go_round
      case rel => exact ⟨k + 1, by omega, by go_num, by rw [E.out]; go_num⟩
      case measure => simp [intOf]; omega
    · obtain rfl : k = h := by omega
      go_wp2
      go_ret
      exact ⟨rfl, rfl⟩
theorem refShr_any {x n : Nat} (hx : x < 4294967296) (hn : n ≤ 32) (w : World) :
    Calls Tryd.prog 52 #[.int .u64 x, .int .i64 n] w fun e w' => e = .returned (.int .u64 ((x / 2 ^ n : Nat) : Int)) ∧ w' = w := by
  have P := pow2_any (h := n) (by omega)
  have p0 := Nat.two_pow_pos n
  have dv : (x : Int) / ((2 ^ n : Nat) : Int) = ((x / 2 ^ n : Nat) : Int) := (Int.natCast_ediv x (2 ^ n)).symm
  have pz : (((2 ^ n : Nat) : Int) == 0) = false := by rw [beq_eq_false_iff_ne]; omega
  have pz2 : (0 : Int) < ((2 ^ n : Nat) : Int) := by omega
  have xi : (x : Int) ≤ 4294967295 := by omega
  obtain ⟨q, hq⟩ : ∃ q, x / 2 ^ n = q := ⟨_, rfl⟩
  have HQ := Lib.hid hq
  have qi : (q : Int) ≤ 4294967295 := by have := Nat.div_le_self x (2 ^ n); omega
  rw [hq] at dv ⊢
  generalize 2 ^ n = p at *
  clear p0 hx hn hq
  go_enter Tryd.func52, Tryd.ntmps52
  go_wp2_with fail
  refine (P _).mono ?_
  rintro e w' ⟨rfl, rfl⟩
  go_wp2
  go_ret
  exact ⟨rfl, rfl⟩
theorem refRotr_any {x n : Nat} (hx : x < 4294967296) (hn : n ≤ 32) (w : World) :
    Calls Tryd.prog 51 #[.int .u64 x, .int .i64 n] w fun e w' => e = .returned (.int .u64 ((rotN x n : Nat) : Int)) ∧ ∃ k, w' = w.drewN k := by
  obtain ⟨m, hm⟩ : ∃ m, 32 - n = m := ⟨_, rfl⟩
  have em : (32 : Int) - (n : Int) = (m : Int) := by omega
  have p0 := Nat.two_pow_pos n
  have lt := rotN_lt hx hn
  have RN : rotN x n = x / 2 ^ n + x % 2 ^ n * 2 ^ m := by unfold rotN; rw [hm]
  have dv : (x : Int) / ((2 ^ n : Nat) : Int) = ((x / 2 ^ n : Nat) : Int) := (Int.natCast_ediv x (2 ^ n)).symm
  have rm : (x : Int) % ((2 ^ n : Nat) : Int) = ((x % 2 ^ n : Nat) : Int) := rfl
  have mu : ((x % 2 ^ n : Nat) : Int) * ((2 ^ m : Nat) : Int) = ((x % 2 ^ n * 2 ^ m : Nat) : Int) := (Int.natCast_mul _ _).symm
  have xi : (x : Int) ≤ 4294967295 := by omega
  have pz : (((2 ^ n : Nat) : Int) == 0) = false := by rw [beq_eq_false_iff_ne]; omega
  have pz2 : (0 : Int) < ((2 ^ n : Nat) : Int) := by omega
  have P := fun (k : Nat) (w : World) (h : k ≤ 63) => pow2_any (h := k) h w
  obtain ⟨q, hq⟩ : ∃ q, x / 2 ^ n = q := ⟨_, rfl⟩
  obtain ⟨r, hr⟩ : ∃ r, x % 2 ^ n = r := ⟨_, rfl⟩
  obtain ⟨t, ht⟩ : ∃ t, r * 2 ^ m = t := ⟨_, rfl⟩
  rw [hr, ht] at mu
  rw [hr] at rm
  rw [hq] at dv
  rw [hq, hr, ht] at RN
  have Pn := P n
  have Pm := P m
  rw [RN] at lt
  have l1 : (q : Int) + (t : Int) ≤ 4294967295 := by omega
  have HRN := Lib.hid RN
  have hn63 : n ≤ 63 := by omega
  have hm63 : m ≤ 63 := by omega
  have rlt : (r : Int) ≤ 4294967295 := by have := Nat.mod_le x (2 ^ n); omega
  have qw : IntKind.u64.wrap (q : Int) = (q : Int) := by rw [wrap_u64]; omega
  have rww : IntKind.u64.wrap (r : Int) = (r : Int) := by clear qw; rw [wrap_u64]; omega
  have sum : IntKind.u64.wrap ((q : Int) + (t : Int)) = ((rotN x n : Nat) : Int) := by clear qw rww; rw [RN, wrap_u64]; omega
  have muw : IntKind.u64.wrap ((r : Int) * ((2 ^ m : Nat) : Int)) = (t : Int) := by clear qw rww sum; rw [mu, wrap_u64]; omega
  have sw : IntKind.i64.wrap ((32 : Int) - (n : Int)) = (m : Int) := by clear qw rww sum muw; rw [IntKind.wrap_i64]; omega
  have tdv : (x : Int).tdiv ((2 ^ n : Nat) : Int) = (q : Int) := by rw [← dv]; exact Int.tdiv_eq_ediv_of_nonneg (Int.natCast_nonneg _)
  have tmd : (x : Int).tmod ((2 ^ n : Nat) : Int) = (r : Int) := by rw [← rm]; exact Int.tmod_eq_emod_of_nonneg (Int.natCast_nonneg _)
  generalize 2 ^ n = p at *
  generalize 2 ^ m = p' at *
  generalize rotN x n = R at *
  clear RN lt em hx hn hm p0 hq hr ht P mu l1
  go_enter Tryd.func51, Tryd.ntmps51
  go_wp2_with fail
  go_quiet ((go_at_call 67; first | (with_reducible exact Calls.quiet_of_same (Pn _ hn63)) | (with_reducible exact Calls.quiet_of_same (Pm _ hm63))))
  go_wp2
  go_ret
  exact ⟨rfl, _, rfl⟩
/-- The lowest bits out of the bits one by one. -/
theorem low_start (v : Nat) : v % 2 ^ 0 = 0 := by rw [Nat.pow_zero, Nat.mod_one]
def BitRel (v x y z : Nat) (o p a b c i : Value) : Prop := ∃ k : Nat, k ≤ 32 ∧ i = .int .i64 (k : Int) ∧ p = .int .u64 ((2 ^ k : Nat) : Int) ∧ o = .int .u64 ((v % 2 ^ k : Nat) : Int) ∧ a = .int .u64 ((x / 2 ^ k : Nat) : Int) ∧ b = .int .u64 ((y / 2 ^ k : Nat) : Int) ∧ c = .int .u64 ((z / 2 ^ k : Nat) : Int)
theorem bit_facts (v x y z k : Nat) (hx : x < 4294967296) (hy : y < 4294967296) (hz : z < 4294967296) (hk : k < 32) : ∃ p o a b c : Nat, 2 ^ k = p ∧ v % 2 ^ k = o ∧ x / 2 ^ k = a ∧ y / 2 ^ k = b ∧ z / 2 ^ k = c ∧ 2 ^ (k + 1) = 2 * p ∧ v % 2 ^ (k + 1) = o + p * (v / 2 ^ k % 2) ∧ x / 2 ^ (k + 1) = a / 2 ∧ y / 2 ^ (k + 1) = b / 2 ∧ z / 2 ^ (k + 1) = c / 2 ∧
    p ≤ 2147483648 ∧ o < p ∧ a ≤ 4294967295 ∧ b ≤ 4294967295 ∧ c ≤ 4294967295 := by
  refine ⟨_, _, _, _, _, rfl, rfl, rfl, rfl, rfl, by rw [Nat.pow_succ, Nat.mul_comm], mod_step v k, ?_, ?_, ?_, ?_, Nat.mod_lt _ (Nat.two_pow_pos k), ?_, ?_, ?_⟩
  · rw [Nat.pow_succ, Nat.div_div_eq_div_mul]
  · rw [Nat.pow_succ, Nat.div_div_eq_div_mul]
  · rw [Nat.pow_succ, Nat.div_div_eq_div_mul]
  · have : 2 ^ k ≤ 2 ^ 31 := Nat.pow_le_pow_right (by decide) (by omega)
    have e : (2 : Nat) ^ 31 = 2147483648 := by decide
    omega
  · have := Nat.div_le_self x (2 ^ k); omega
  · have := Nat.div_le_self y (2 ^ k); omega
  · have := Nat.div_le_self z (2 ^ k); omega
theorem refXor_any {x y z : Nat} (hx : x < 4294967296) (hy : y < 4294967296) (hz : z < 4294967296) (w : World) :
    Calls Tryd.prog 50 #[.int .u64 x, .int .u64 y, .int .u64 z] w fun e w' => e = .returned (.int .u64 ((xorN x y z : Nat) : Int)) ∧ w' = w := by
  have lt := xorN_lt hx hy hz
  have BF := fun k hk => bit_facts (xorN x y z) x y z k hx hy hz hk
  have XB := fun k => xor_bit x y z k
  have E32 := Lib.hid (mod_32 lt)
  have HBF := Lib.hid BF
  have HXB := Lib.hid XB
  clear lt BF XB hx hy hz
  go_enter Tryd.func50, Tryd.ntmps50
  go_wp2
  go_loop [7, 8, 0, 1, 2, 9] (fun o p a b c i => BitRel (xorN x y z) x y z o p a b c i) (fun _ _ _ _ _ i => 32 - (intOf i).toNat)
  case atStart => exact ⟨0, by omega, rfl, rfl, by rw [low_start]; rfl, by rw [Nat.pow_zero, Nat.div_one], by rw [Nat.pow_zero, Nat.div_one], by rw [Nat.pow_zero, Nat.div_one]⟩
  case round =>
    obtain ⟨k, hk, rfl, rfl, rfl, rfl, rfl, rfl⟩ := hrel
    by_cases hlt : k < 32
    · obtain ⟨p, o, a, b, c, e1, e2, e3, e4, e5, n1, n2, n3, n4, n5, b1, b2, b3, b4, b5⟩ := HBF.out k hlt
      have bit := HXB.out k
      rw [e3, e4, e5] at bit
      rw [bit] at n2
      rw [e2, e3, e4, e5, e1]
      have N := Lib.hid (And.intro n1 (And.intro n2 (And.intro n3 (And.intro n4 n5))))
      have hi : (k : Int) < 32 := by omega
      obtain ⟨t, ht⟩ : ∃ t, (a % 2 + b % 2 + c % 2) % 2 = t := ⟨_, rfl⟩
      rw [ht] at N
      have ti : (((a : Int) % 2 + (b : Int) % 2 + (c : Int) % 2) % 2) = (t : Int) := by omega
      have t1 : t ≤ 1 := by omega
      have mu : p * t ≤ p := by have := Nat.mul_le_mul_left p t1; rwa [Nat.mul_one] at this
      obtain ⟨u, hu⟩ : ∃ u, p * t = u := ⟨_, rfl⟩
      have mui : (p : Int) * (t : Int) = (u : Int) := by rw [← hu, Int.natCast_mul]
      rw [hu] at N mu
      have bi1 : (o : Int) + (u : Int) ≤ 4294967296 := by omega
      have bi2 : (p : Int) ≤ 2147483648 := by omega
      have bi3 : (a : Int) ≤ 4294967295 := by omega
      have bi4 : (b : Int) ≤ 4294967295 := by omega
      have bi5 : (c : Int) ≤ 4294967295 := by omega
      clear e1 e2 e3 e4 e5 n1 n2 n3 n4 n5 bit ht hu b1 b2 b3 b4 b5 mu t1
      go_wp2
      go_round
      case rel => exact ⟨k + 1, by omega, by go_num, by rw [N.out.1]; go_num, by rw [N.out.2.1]; go_num, by rw [N.out.2.2.1]; go_num, by rw [N.out.2.2.2.1]; go_num, by rw [N.out.2.2.2.2]; go_num⟩
      case measure => simp [intOf]; omega
    · obtain rfl : k = 32 := by omega
      rw [E32.out]
      go_wp2
      go_ret
      exact ⟨rfl, rfl⟩
theorem refMaj_any {x y z : Nat} (hx : x < 4294967296) (hy : y < 4294967296) (hz : z < 4294967296) (w : World) :
    Calls Tryd.prog 54 #[.int .u64 x, .int .u64 y, .int .u64 z] w fun e w' => e = .returned (.int .u64 ((majN x y z : Nat) : Int)) ∧ w' = w := by
  have lt := majN_lt (z := z) hx hy
  have BF := fun k hk => bit_facts (majN x y z) x y z k hx hy hz hk
  have XB := fun k => maj_bit x y z k
  have E32 := Lib.hid (mod_32 lt)
  have HBF := Lib.hid BF
  have HXB := Lib.hid XB
  clear lt BF XB hx hy hz
  go_enter Tryd.func54, Tryd.ntmps54
  go_wp2
  go_loop [7, 8, 0, 1, 2, 9] (fun o p a b c i => BitRel (majN x y z) x y z o p a b c i) (fun _ _ _ _ _ i => 32 - (intOf i).toNat)
  case atStart => exact ⟨0, by omega, rfl, rfl, by rw [low_start]; rfl, by rw [Nat.pow_zero, Nat.div_one], by rw [Nat.pow_zero, Nat.div_one], by rw [Nat.pow_zero, Nat.div_one]⟩
  case round =>
    obtain ⟨k, hk, rfl, rfl, rfl, rfl, rfl, rfl⟩ := hrel
    by_cases hlt : k < 32
    · obtain ⟨p, o, a, b, c, e1, e2, e3, e4, e5, n1, n2, n3, n4, n5, b1, b2, b3, b4, b5⟩ := HBF.out k hlt
      have bit := HXB.out k
      rw [e3, e4, e5] at bit
      rw [bit] at n2
      rw [e2, e3, e4, e5, e1]
      have N := Lib.hid (And.intro n1 (And.intro n2 (And.intro n3 (And.intro n4 n5))))
      have hi : (k : Int) < 32 := by omega
      obtain ⟨t, ht⟩ : ∃ t, (a % 2 + b % 2 + c % 2) / 2 = t := ⟨_, rfl⟩
      rw [ht] at N
      have ti : (((a : Int) % 2 + (b : Int) % 2 + (c : Int) % 2) / 2) = (t : Int) := by omega
      have t1 : t ≤ 1 := by omega
      have mu : p * t ≤ p := by have := Nat.mul_le_mul_left p t1; rwa [Nat.mul_one] at this
      obtain ⟨u, hu⟩ : ∃ u, p * t = u := ⟨_, rfl⟩
      have mui : (p : Int) * (t : Int) = (u : Int) := by rw [← hu, Int.natCast_mul]
      rw [hu] at N mu
      have bi1 : (o : Int) + (u : Int) ≤ 4294967296 := by omega
      have bi2 : (p : Int) ≤ 2147483648 := by omega
      have bi3 : (a : Int) ≤ 4294967295 := by omega
      have bi4 : (b : Int) ≤ 4294967295 := by omega
      have bi5 : (c : Int) ≤ 4294967295 := by omega
      clear e1 e2 e3 e4 e5 n1 n2 n3 n4 n5 bit ht hu b1 b2 b3 b4 b5 mu t1
      go_wp2
      go_round
      case rel => exact ⟨k + 1, by omega, by go_num, by rw [N.out.1]; go_num, by rw [N.out.2.1]; go_num, by rw [N.out.2.2.1]; go_num, by rw [N.out.2.2.2.1]; go_num, by rw [N.out.2.2.2.2]; go_num⟩
      case measure => simp [intOf]; omega
    · obtain rfl : k = 32 := by omega
      rw [E32.out]
      go_wp2
      go_ret
      exact ⟨rfl, rfl⟩
theorem refCh_any {x y z : Nat} (hx : x < 4294967296) (hy : y < 4294967296) (hz : z < 4294967296) (w : World) :
    Calls Tryd.prog 53 #[.int .u64 x, .int .u64 y, .int .u64 z] w fun e w' => e = .returned (.int .u64 ((chN x y z : Nat) : Int)) ∧ w' = w := by
  have lt := chN_lt (y := y) (z := z) hx
  have BF := fun k hk => bit_facts (chN x y z) x y z k hx hy hz hk
  have XB := fun k (hk : k < 32) => ch_bit (y := y) (z := z) hx hk
  have E32 := Lib.hid (mod_32 lt)
  have HBF := Lib.hid BF
  have HXB := Lib.hid XB
  clear lt BF XB hx hy hz
  go_enter Tryd.func53, Tryd.ntmps53
  go_wp2
  go_loop [7, 8, 0, 1, 2, 9] (fun o p a b c i => BitRel (chN x y z) x y z o p a b c i) (fun _ _ _ _ _ i => 32 - (intOf i).toNat)
  case atStart => exact ⟨0, by omega, rfl, rfl, by rw [low_start]; rfl, by rw [Nat.pow_zero, Nat.div_one], by rw [Nat.pow_zero, Nat.div_one], by rw [Nat.pow_zero, Nat.div_one]⟩
  case round =>
    obtain ⟨k, hk, rfl, rfl, rfl, rfl, rfl, rfl⟩ := hrel
    by_cases hlt : k < 32
    · obtain ⟨p, o, a, b, c, e1, e2, e3, e4, e5, n1, n2, n3, n4, n5, b1, b2, b3, b4, b5⟩ := HBF.out k hlt
      have bit := HXB.out k hlt
      rw [e3, e4, e5] at bit
      rw [bit] at n2
      rw [e2, e3, e4, e5, e1]
      clear bit
      have hi : (k : Int) < 32 := by omega
      by_cases ha : a % 2 = 1
      · rw [if_pos ha] at n2
        have N := Lib.hid (And.intro n1 (And.intro n2 (And.intro n3 (And.intro n4 n5))))
        have hai : ((a : Int) % 2 = 1) := by omega
        obtain ⟨t, ht⟩ : ∃ t, b % 2 = t := ⟨_, rfl⟩
        rw [ht] at N
        have ti : (b : Int) % 2 = (t : Int) := by omega
        have t1 : t ≤ 1 := by omega
        have mu : p * t ≤ p := by have := Nat.mul_le_mul_left p t1; rwa [Nat.mul_one] at this
        obtain ⟨u, hu⟩ : ∃ u, p * t = u := ⟨_, rfl⟩
        have mui : (p : Int) * (t : Int) = (u : Int) := by rw [← hu, Int.natCast_mul]
        rw [hu] at N mu
        have bi1 : (o : Int) + (u : Int) ≤ 4294967296 := by omega
        have bi2 : (p : Int) ≤ 2147483648 := by omega
        have bi3 : (a : Int) ≤ 4294967295 := by omega
        have bi4 : (b : Int) ≤ 4294967295 := by omega
        have bi5 : (c : Int) ≤ 4294967295 := by omega
        clear e1 e2 e3 e4 e5 n1 n2 n3 n4 n5 ht hu b1 b2 b3 b4 b5 mu t1 ha
        go_wp2
        go_round
        case rel => exact ⟨k + 1, by omega, by go_num, by rw [N.out.1]; go_num, by rw [N.out.2.1]; go_num, by rw [N.out.2.2.1]; go_num, by rw [N.out.2.2.2.1]; go_num, by rw [N.out.2.2.2.2]; go_num⟩
        case measure => simp [intOf]; omega
      · rw [if_neg ha] at n2
        have N := Lib.hid (And.intro n1 (And.intro n2 (And.intro n3 (And.intro n4 n5))))
        have hai : ¬ ((a : Int) % 2 = 1) := by omega
        obtain ⟨t, ht⟩ : ∃ t, c % 2 = t := ⟨_, rfl⟩
        rw [ht] at N
        have ti : (c : Int) % 2 = (t : Int) := by omega
        have t1 : t ≤ 1 := by omega
        have mu : p * t ≤ p := by have := Nat.mul_le_mul_left p t1; rwa [Nat.mul_one] at this
        obtain ⟨u, hu⟩ : ∃ u, p * t = u := ⟨_, rfl⟩
        have mui : (p : Int) * (t : Int) = (u : Int) := by rw [← hu, Int.natCast_mul]
        rw [hu] at N mu
        have bi1 : (o : Int) + (u : Int) ≤ 4294967296 := by omega
        have bi2 : (p : Int) ≤ 2147483648 := by omega
        have bi3 : (a : Int) ≤ 4294967295 := by omega
        have bi4 : (b : Int) ≤ 4294967295 := by omega
        have bi5 : (c : Int) ≤ 4294967295 := by omega
        clear e1 e2 e3 e4 e5 n1 n2 n3 n4 n5 ht hu b1 b2 b3 b4 b5 mu t1 ha
        go_wp2
        go_round
        case rel => exact ⟨k + 1, by omega, by go_num, by rw [N.out.1]; go_num, by rw [N.out.2.1]; go_num, by rw [N.out.2.2.1]; go_num, by rw [N.out.2.2.2.1]; go_num, by rw [N.out.2.2.2.2]; go_num⟩
        case measure => simp [intOf]; omega
    · obtain rfl : k = 32 := by omega
      rw [E32.out]
      go_wp2
      go_ret
      exact ⟨rfl, rfl⟩
end Go.Proofs.YtcifnfffoiiceaaDoor
