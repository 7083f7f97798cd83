/-
  massifref3's Power, Nodes, Spot and Place.
-/
import Derived.Test.YtkiomgnjjijbgaaPosSpot
namespace Go.Proofs.Ytkiomgnjjijbgaa
open Go.RowKit
set_option linter.unusedVariables false

theorem p62 : (2 : Nat) ^ 62 = 4611686018427387904 := by decide
theorem power_any {h : Nat} (hh : h ≤ 63) (w : World) :
    Calls Try.prog 47 #[.int .i64 h] w fun e w' => e = .returned (.int .u64 ((2 ^ h : Nat) : Int)) ∧ w = w' := by
  go_enter Try.func47, Try.ntmps47
  go_wp2
  go_loop [3, 4] (fun p i => ∃ k : Nat, k ≤ h ∧ i = .int .i64 k ∧ p = .int .u64 ((2 ^ k : Nat) : Int)) (fun _ i => h - (intOf i).toNat)
  case atStart => exact ⟨0, by omega, rfl, rfl⟩
  case round =>
    obtain ⟨k, hk, rfl, rfl⟩ := hrel
    by_cases hlt : k < h
    · have hp : 2 ^ k ≤ 2 ^ 62 := Nat.pow_le_pow_right (by decide) (by omega)
      have e62 : (2 : Nat) ^ 62 = 4611686018427387904 := by decide
      have S := Lib.hid (show 2 * ((2 ^ k : Nat) : Int) = ((2 ^ (k + 1) : Nat) : Int) by rw [Nat.pow_succ]; omega)
      have hp2 : 2 ^ k ≤ 4611686018427387904 := by omega
      clear hp e62
      generalize 2 ^ k = q at *
      go_wp2
      go_round
      case rel => exact ⟨k + 1, by omega, by go_num, by rw [← S.out]⟩
      case measure => simp [intOf]; omega
    · obtain rfl : k = h := by omega
      generalize hq : 2 ^ k = q
      go_wp2
      go_ret
      exact ⟨rfl, rfl⟩
theorem power_quiet {h q : Nat} (hh : h ≤ 63) (hq : 2 ^ h = q) (w : World) :
    Calls Try.prog 47 #[.int .i64 h] w fun e w' => e = .returned (.int .u64 (q : Int)) ∧ w' = w := by
  rw [← hq]
  exact (power_any hh w).mono fun _ _ ⟨he, hw⟩ => ⟨he, hw.symm⟩

theorem refNodes_any {n : Nat} (hn : n ≤ 4611686018427387904) (w : World) :
    Calls Try.prog 19 #[.int .u64 n] w fun e w' => e = .returned (.tuple #[.int .u64 (nodeN n), .bool true]) ∧ w = w' := by
  have nm := nodeN_mono_le hn
  rw [nodes_most] at nm
  go_enter Try.func19, Try.ntmps19
  go_wp2
  go_loop [0, 4] (fun m s => ∃ a b : Nat, a < 9223372036854775808 ∧ m = .int .u64 a ∧ s = .int .u64 b ∧ b + nodeN a = nodeN n) (fun m _ => (intOf m).toNat)
  case atStart => exact ⟨n, 0, by omega, rfl, rfl, by omega⟩
  case round =>
    obtain ⟨a, b, ha, rfl, rfl, hs⟩ := hrel
    by_cases h0 : 0 < a
    · have hh := nodeN_half (n := a) (by omega)
      have hab : b + a ≤ 9223372036854775807 := by omega
      have hnext : b + a + nodeN (a / 2) = nodeN n := by omega
      have HX := Lib.hid hnext
      clear hh hnext hs nm
      go_wp2
      go_round
      case rel => exact ⟨a / 2, b + a, by omega, by go_num, by go_num, HX.out⟩
      case measure => simp [intOf]; omega
    · obtain rfl : a = 0 := by omega
      have z : nodeN 0 = 0 := by unfold nodeN; omega
      have hb : b = nodeN n := by omega
      have HX := Lib.hid hb
      clear hs z hb nm
      go_wp2
      go_ret2
      exact ⟨by rw [← HX.out]; rfl, rfl⟩
theorem refNodes_no {n : Nat} (hn : 4611686018427387904 < n) (w : World) :
    Calls Try.prog 19 #[.int .u64 n] w fun e w' => e = .returned (.tuple #[.int .u64 0, .bool false]) ∧ w = w' := by
  go_enter Try.func19, Try.ntmps19
  go_wp2
  go_ret2
  exact ⟨rfl, rfl⟩
theorem refNodes_quiet {n q : Nat} (hn : n ≤ 4611686018427387904) (hq : nodeN n = q) (w : World) :
    Calls Try.prog 19 #[.int .u64 n] w fun e w' => e = .returned (.tuple #[.int .u64 (q : Int), .bool true]) ∧ w' = w := by
  rw [← hq]
  exact (refNodes_any hn w).mono fun _ _ ⟨he, hw⟩ => ⟨he, hw.symm⟩

theorem refSpot_no {p : Nat} (hp : p < 18446744073709551616) (h : 9223372036854775807 ≤ p) (w : World) :
    Calls Try.prog 14 #[.int .u64 p] w fun e w' => e = .returned (.tuple #[spotV 0 0, .bool false]) ∧ Below w.heap.size w w' := by
  have i0 : (9223372036854775807 : Int) ≤ (p : Int) := by omega
  go_enter Try.func14, Try.ntmps14
  go_wp2_with fail
  refine (power_any (h := 62) (by decide) _).mono ?_
  rintro e w' ⟨rfl, rfl⟩
  rw [p62]
  go_wp2
  exact bodyPost_ret (v := .tuple #[spotV 0 0, .bool false]) (by simp [results, Try.results14, go_sem, spotV]) rfl ⟨rfl, ((Below.refl _ _).alloc (Nat.le_refl _) _)⟩

theorem refSpot_yes {h k : Nat} (r : Right h k) (w : World) :
    Calls Try.prog 14 #[.int .u64 (placeN h k)] w fun e w' => e = .returned (.tuple #[spotV h k, .bool true]) ∧ Below w.heap.size w w' := by
  have b := right_bound r
  have pn := place_next (h := h) (k := k) (by omega)
  have hm := nodeN_mono_le b
  rw [nodes_most] at hm
  have hB0 : baseN 62 0 = 0 := by unfold baseN; omega
  have hP0 : placeN 62 0 = 9223372036854775806 := by
    have e63 : (2 : Nat) ^ (62 + 1) = 9223372036854775808 := by decide
    unfold placeN
    rw [ones_zero, e63]
  obtain ⟨p, hp⟩ : ∃ p, p = placeN h k := ⟨_, rfl⟩
  have hp1 : p ≤ 9223372036854775806 := by omega
  rw [← hp]
  have HP := Lib.hid hp
  clear hp b pn hm
  go_enter Try.func14, Try.ntmps14
  go_wp2_with fail
  refine (power_any (h := 62) (by decide) _).mono ?_
  rintro e w' ⟨rfl, rfl⟩
  rw [p62]
  go_wp2_with fail
  go_loopw [4, 5, 6, 7] (fun bv hv kv _ wr => ∃ a b : Nat, Right a b ∧ bv = .int .u64 (baseN a b) ∧ hv = .int .i64 a ∧ kv = .int .u64 b ∧ baseN a b ≤ p ∧ p ≤ placeN a b ∧ wr = w.alloc (.cells #[.int .u8 0, .int .u64 0] 24)) (fun _ hv _ _ _ => (intOf hv).toNat)
  case atStart => exact ⟨62, 0, ⟨by decide, by decide⟩, by rw [hB0]; rfl, rfl, rfl, by omega, by omega, rfl⟩
  case round =>
    obtain ⟨a, b, ra, rfl, rfl, rfl, h0, h1, rfl⟩ := hrel
    have rb := right_bound ra
    have kb := right_k ra
    have a62 := ra.1
    have pb := place_base a b
    have pn := place_next (h := a) (k := b) (by omega)
    have hm := nodeN_mono_le rb
    rw [nodes_most] at hm
    have hq2 : 2 ^ (a + 1) = 2 ^ a * 2 := Nat.pow_succ ..
    have hq0 := Nat.two_pow_pos a
    rw [hq2] at pb
    have hq62 : 2 ^ a ≤ 2 ^ 62 := Nat.pow_le_pow_right (by decide) a62
    rw [p62] at hq62
    by_cases hp : p = placeN a b
    · obtain ⟨rfl, rfl⟩ := place_inj r ra (by rw [← HP.out]; exact hp)
      have ht : ((p : Int) == (baseN h k : Int) + 2 * (((2 ^ h : Nat) : Int) - 1)) = true := by rw [beq_iff_eq]; omega
      have hs : baseN h k + 2 * (2 ^ h - 1) < 18446744073709551616 := by omega
      clear h0 h1 pb pn hm hq2 rb ra hp hB0 hP0
      generalize baseN h k = base at *
      go_wp2_with fail
      refine (power_any (by omega) _).mono ?_
      rintro e w' ⟨rfl, rfl⟩
      generalize 2 ^ h = q at *
      go_wp2
      exact bodyPost_ret (v := .tuple #[spotV h k, .bool true]) (by simp [results, Try.results14, go_sem, spotV]) rfl ⟨rfl, ((Below.refl _ _).alloc (Nat.le_refl _) _)⟩
    · have ha0 : a ≠ 0 := by
        rintro rfl
        simp at pb
        omega
      obtain ⟨c, rfl⟩ : ∃ c, a = c + 1 := ⟨a - 1, by omega⟩
      obtain ⟨rl, rr⟩ := right_left ra
      have b1 := base_right (h := c) (k := b) (by omega)
      have b2 := place_right (h := c) (k := b) (by omega)
      have b3 := base_left (h := c) (k := b) (by omega)
      have b4 := place_base c (2 * b)
      have ht : ((p : Int) == (baseN (c + 1) b : Int) + 2 * (((2 ^ (c + 1) : Nat) : Int) - 1)) = false := by rw [beq_eq_false_iff_ne]; omega
      have hs : baseN (c + 1) b + 2 * (2 ^ (c + 1) - 1) < 18446744073709551616 := by omega
      have ec : ((c + 1 : Nat) : Int) - 1 = (c : Int) := by omega
      by_cases hc : baseN (c + 1) b + (2 ^ (c + 1) - 1) ≤ p
      · have h0' : baseN c (2 * b + 1) ≤ p := by omega
        have h1' : p ≤ placeN c (2 * b + 1) := by omega
        have HBB := Lib.hid b1
        clear h0 h1 pb pn hm hq2 rb ra hp hB0 hP0 b1 b2 b3 b4 rl
        have HH0 := Lib.hid h0'
        have HH1 := Lib.hid h1'
        clear h0' h1'
        generalize baseN (c + 1) b = base at *
        have hd63 : c + 1 ≤ 63 := by omega
        go_wp2_with fail
        refine (power_any (h := c + 1) hd63 _).mono ?_
        rintro e w' ⟨rfl, rfl⟩
        generalize 2 ^ (c + 1) = q at *
        go_wp2
        go_roundw
        case rel => exact ⟨c, 2 * b + 1, rr, by rw [HBB.out]; congr 1; omega, rfl, by go_num, HH0.out, HH1.out, trivial⟩
        case measure => simp [intOf]
      · have h0' : baseN c (2 * b) ≤ p := by omega
        have h1' : p ≤ placeN c (2 * b) := by omega
        have HBB := Lib.hid b3
        clear h0 h1 pb pn hm hq2 rb ra hp hB0 hP0 b1 b2 b3 b4 rr
        have HH0 := Lib.hid h0'
        have HH1 := Lib.hid h1'
        clear h0' h1'
        generalize baseN (c + 1) b = base at *
        have hd63 : c + 1 ≤ 63 := by omega
        go_wp2_with fail
        refine (power_any (h := c + 1) hd63 _).mono ?_
        rintro e w' ⟨rfl, rfl⟩
        generalize 2 ^ (c + 1) = q at *
        go_wp2
        go_roundw
        case rel => exact ⟨c, 2 * b, rl, by rw [HBB.out], rfl, by go_num, HH0.out, HH1.out, trivial⟩
        case measure => simp [intOf]
end Go.Proofs.Ytkiomgnjjijbgaa
