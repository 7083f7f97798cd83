/-
  The walks of the program's words: rotr, word.
-/
import Derived.Test.YtcifnfffoiiceaaDoorSha
import Derived.Test.YtcifnfffoiiceaaDoorBig
import Derived.RegionTactic
import Derived.Deep.QuietTactic
import Derived.BigQuiet
namespace Go.Proofs.YtcifnfffoiiceaaDoor
open Go.RowKit
set_option linter.unusedVariables false

theorem turn_count {n : Nat} (h0 : 0 < n) (hn : n < 32) : bits .and .u64 (IntKind.u64.wrap (-(n : Int))) 31 = ((32 - n : Nat) : Int) := by
  have e : IntKind.u64.wrap (-(n : Int)) = ((18446744073709551616 - n : Nat) : Int) := by rw [wrap_u64]; omega
  have h := u64_and_nat (18446744073709551616 - n) 31 (by omega) (by omega)
  have e2 : (18446744073709551616 - n) &&& 31 = 32 - n := by
    have := Nat.and_two_pow_sub_one_eq_mod (18446744073709551616 - n) 5
    have e5 : (2 : Nat) ^ 5 = 32 := by decide
    rw [e5] at this
    rw [show (31 : Nat) = 32 - 1 from rfl, this]
    omega
  rw [e2] at h
  rw [e]
  exact h
theorem turn_bits {x n c : Nat} (hx : x < 4294967296) (h0 : n ≤ 32) (hc : 32 - n = c) : bits .or .u32 ((x : Int) * 2 ^ c % 4294967296) ((x : Int) / 2 ^ n) = ((rotN x n : Nat) : Int) := by
  have e32 : (4294967296 : Nat) = 2 ^ n * 2 ^ c := by rw [← Nat.pow_add, show n + c = 32 by omega]
  have e1 : ((x : Int) * 2 ^ c % 4294967296) = ((x % 2 ^ n * 2 ^ c : Nat) : Int) := by
    have : x * 2 ^ c % 4294967296 = x % 2 ^ n * 2 ^ c := by rw [e32, Nat.mul_mod_mul_right]
    rw [← this]
    simp
  have e2 : ((x : Int) / 2 ^ n) = ((x / 2 ^ n : Nat) : Int) := by simp
  have hd : x / 2 ^ n < 2 ^ c := Nat.div_lt_of_lt_mul (by rw [← e32]; exact hx)
  have hr : x % 2 ^ n * 2 ^ c < 4294967296 := by rw [e32]; exact Nat.mul_lt_mul_of_pos_right (Nat.mod_lt _ (Nat.two_pow_pos n)) (Nat.two_pow_pos c)
  have hj := nat_join c (x % 2 ^ n * 2 ^ c) (x / 2 ^ n) (Nat.mul_mod_left _ _) hd
  rw [e1, e2, u32_or_nat _ _ hr (Nat.lt_of_le_of_lt (Nat.div_le_self _ _) hx), hj]
  unfold rotN
  rw [hc, Nat.add_comm]
theorem RotateLeft32_any {x n : Nat} (hx : x < 4294967296) (h0 : 0 < n) (hn : n < 32) (w : World) :
    Calls Tryd.prog 64 #[.int .u32 x, .int .i64 (-(n : Int))] w fun e w' => e = .returned (.int .u32 ((rotN x n : Nat) : Int)) ∧ w' = w := by
  have tc := turn_count h0 hn
  obtain ⟨c, hc⟩ : ∃ c, 32 - n = c := ⟨_, rfl⟩
  rw [hc] at tc
  have c1 : (c : Int) ≤ 31 := by omega
  have c2 : (0 : Int) ≤ (c : Int) := by omega
  have c3 : (32 : Int) - (c : Int) = (n : Int) := by omega
  have TB := Lib.hid (turn_bits hx (by omega) hc)
  go_enter Tryd.func64, Tryd.ntmps64
  go_wp2
  go_ret
  exact ⟨by rw [← TB.out]; rfl, rfl⟩
theorem rotr_any {x n : Nat} (hx : x < 4294967296) (h0 : 0 < n) (hn : n < 32) (w : World) :
    Calls Tryd.prog 45 #[.int .u32 x, .int .i64 (n : Int)] w fun e w' => e = .returned (.int .u32 ((rotN x n : Nat) : Int)) ∧ w' = w := by
  have R := RotateLeft32_any hx h0 hn
  have i0 : (n : Int) < 32 := by omega
  have i1 : (0 : Int) < (n : Int) := by omega
  go_enter Tryd.func45, Tryd.ntmps45
  go_wp2_with fail
  refine (R _).mono ?_
  rintro e w' ⟨rfl, rfl⟩
  go_wp2
  go_ret
  exact ⟨rfl, rfl⟩
theorem SliceOf.part {l : List Nat} {b off cap i n : Nat} {w : World} (hv : SliceOf u8c w (.slice (some ⟨b, off, none⟩) l.length cap) l) (hk : i + n ≤ l.length) :
    SliceOf u8c w (.slice (some ⟨b, off + i, none⟩) n (cap - i)) ((l.drop i).take n) := by
  obtain ⟨a, c, he, h1, h2, h0, h3⟩ := hv
  obtain ⟨rfl, rfl⟩ : some (⟨b, off, none⟩ : Addr) = a ∧ cap = c := by cases he; exact ⟨rfl, rfl⟩
  have hlen : ((l.drop i).take n).length = n := by rw [List.length_take, List.length_drop]; omega
  refine ⟨some ⟨b, off + i, none⟩, cap - i, by rw [hlen], by omega, by omega, (fun e => by cases e), ?_⟩
  rcases h3 with rfl | ⟨b', off', ha, hc⟩
  · left
    simp
  · right
    cases ha
    refine ⟨b, off + i, rfl, fun j x hj => ?_⟩
    rw [List.getElem?_take] at hj
    split at hj
    · rw [List.getElem?_drop] at hj
      rw [Nat.add_assoc]
      exact hc _ _ hj
    · cases hj
theorem Bytes.part {l : List Nat} (h : Bytes l) (i n : Nat) : Bytes ((l.drop i).take n) := fun c hc => h c (List.mem_of_mem_drop (List.mem_of_mem_take hc))
theorem word_lt {l : List Nat} (h : Bytes l) (i : Nat) : bigV ((l.drop i).take 4) < 4294967296 := by
  have := bigV_lt (h.part i 4) 4
  rw [List.take_take, Nat.min_self] at this
  exact this
theorem word_any {l : List Nat} {b off cap k : Nat} (w : World) (hv : SliceOf u8c w (.slice (some ⟨b, off, none⟩) l.length cap) l) (hB : Bytes l) (hk : 4 * k + 4 ≤ l.length) (hc : cap ≤ maxLen) (hl : l.length ≤ cap) :
    Calls Tryd.prog 44 #[.slice (some ⟨b, off, none⟩) l.length cap, .int .i64 (k : Int)] w fun e w' => e = .returned (.int .u32 ((bigV ((l.drop (4 * k)).take 4) : Nat) : Int)) ∧ w' = w := by
  have m1 : cap ≤ 9223372036854775807 := by unfold maxLen at hc; omega
  have F := FromBig_any w (hv.part (i := 4 * k) (n := 4) hk) (hB.part _ _) (by rw [List.length_take]; omega)
  have ki : 4 * (k : Int) + 4 ≤ (l.length : Int) := by omega
  have li : (l.length : Int) ≤ (cap : Int) := by omega
  have ci : (cap : Int) ≤ 9223372036854775807 := by omega
  have lt := word_lt hB (4 * k)
  clear hv hk hl
  generalize bigV ((l.drop (4 * k)).take 4) = x at *
  go_enter Tryd.func44, Tryd.ntmps44
  go_wp2_with fail
  refine F.mono ?_
  rintro e w' ⟨rfl, rfl⟩
  go_wp2
  go_ret
  exact ⟨rfl, rfl⟩
end Go.Proofs.YtcifnfffoiiceaaDoor
