/-
  Leaves, by the program and by the reference.
-/
import Derived.Test.YtkiomgnjjijbgaaBox
namespace Go.Proofs.Ytkiomgnjjijbgaa
open Go.RowKit
set_option linter.unusedVariables false

theorem Leaves_yes {n : Nat} (hn : n ≤ 4611686018427387904) (w : World) :
    Calls Try.prog 20 #[.int .u64 (nodeN n)] w fun e w' => e = .returned (.tuple #[.int .u64 n, .bool true]) ∧ w = w' := by
  have nm := nodeN_mono_le hn
  rw [nodes_most] at nm
  have L := Lib.hid (lastN_of (p := nodeN n) (i := n) (by omega) (Nat.le_refl _) (nodeN_succ n))
  have i0 : (n : Int) ≤ 4611686018427387904 := by omega
  have i1 : nodeN n < 18446744073709551616 := by omega
  obtain ⟨q, hq⟩ : ∃ q, nodeN n = q := ⟨_, rfl⟩
  have HQ := Lib.hid hq
  rw [hq] at L i1
  rw [hq]
  clear hq nm
  go_enter Try.func20, Try.ntmps20
  go_wp2_with fail
  refine (last_any i1 _).mono ?_
  rintro e w' ⟨rfl, rfl⟩
  rw [L.out]
  go_wp2_with fail
  refine (nodes_any (n := n) (by omega) _).mono ?_
  rintro e w' ⟨rfl, rfl⟩
  rw [HQ.out]
  go_wp2
  go_ret2
  exact ⟨rfl, rfl⟩
theorem last_top : lastN 18446744073709551615 = 9223372036854775807 ∨ 4611686018427387904 < lastN 18446744073709551615 := by
  right
  decide +kernel
theorem Leaves_no {s : Nat} (hs : s < 18446744073709551616) (h : ∀ n, n ≤ 4611686018427387904 → nodeN n ≠ s) (w : World) :
    Calls Try.prog 20 #[.int .u64 s] w fun e w' => e = .returned (.tuple #[.int .u64 0, .bool false]) ∧ w = w' := by
  obtain ⟨m, hm⟩ : ∃ m, lastN s = m := ⟨_, rfl⟩
  have HM := Lib.hid hm
  by_cases hb : m ≤ 4611686018427387904
  · have hne := h m hb
    clear h hm
    obtain ⟨q, hq⟩ : ∃ q, nodeN m = q := ⟨_, rfl⟩
    have HQ := Lib.hid hq
    rw [hq] at hne
    have i0 : (m : Int) ≤ 4611686018427387904 := by omega
    have i1 : ((q : Int) == (s : Int)) = false := beq_eq_false_iff_ne.2 (by omega)
    clear hq
    go_enter Try.func20, Try.ntmps20
    go_wp2_with fail
    refine (last_any hs _).mono ?_
    rintro e w' ⟨rfl, rfl⟩
    rw [HM.out]
    go_wp2_with fail
    refine (nodes_any (n := m) (by omega) _).mono ?_
    rintro e w' ⟨rfl, rfl⟩
    rw [HQ.out]
    go_wp2
    go_ret2
    exact ⟨rfl, rfl⟩
  · clear h hm
    have i0 : (4611686018427387904 : Int) < (m : Int) := by omega
    go_enter Try.func20, Try.ntmps20
    go_wp2_with fail
    refine (last_any hs _).mono ?_
    rintro e w' ⟨rfl, rfl⟩
    rw [HM.out]
    go_wp2
    go_ret2
    exact ⟨rfl, rfl⟩

/-- Where the search between two ends: the answer is said as a pair. -/
def leavesN (s : Nat) (r : Nat × Bool) : Prop := (∃ n, n ≤ 4611686018427387904 ∧ nodeN n = s ∧ r = (n, true)) ∨ ((∀ n, n ≤ 4611686018427387904 → nodeN n ≠ s) ∧ r = (0, false))
def Between (s lo hi : Nat) : Prop := lo ≤ hi ∧ hi ≤ 4611686018427387904 ∧ (∀ j, j < lo → nodeN j < s) ∧ (hi = 4611686018427387904 ∨ s ≤ nodeN hi)
theorem Between.up {s lo hi m : Nat} (b : Between s lo hi) (h1 : lo ≤ m) (h2 : m < hi) (h : nodeN m < s) : Between s (m + 1) hi :=
  ⟨by omega, b.2.1, fun j hj => by have := nodeN_mono_le (show j ≤ m by omega); omega, b.2.2.2⟩
theorem Between.down {s lo hi m : Nat} (b : Between s lo hi) (h1 : lo ≤ m) (h2 : m < hi) (h : ¬ nodeN m < s) : Between s lo m :=
  ⟨h1, by have := b.2.1; omega, b.2.2.1, .inr (by omega)⟩
theorem Between.yes {s lo : Nat} (b : Between s lo lo) (h : nodeN lo = s) : leavesN s (lo, true) := .inl ⟨lo, b.2.1, h, rfl⟩
theorem Between.no {s lo : Nat} (b : Between s lo lo) (h : nodeN lo ≠ s) : leavesN s (0, false) := by
  refine .inr ⟨fun n hn e => ?_, rfl⟩
  subst e
  have h1 : ¬ n < lo := fun hl => Nat.lt_irrefl _ (b.2.2.1 n hl)
  have h2 : n ≠ lo := fun e => h (by rw [e])
  have h3 := nodeN_mono (show lo < n by omega)
  rcases b.2.2.2 with e | e
  · omega
  · omega
theorem mid_of {lo hi : Nat} (h : lo < hi) (hb : hi ≤ 4611686018427387904) : IntKind.u64.wrap ((lo : Int) + IntKind.u64.wrap ((hi : Int) - (lo : Int)) / 2) = ((lo + (hi - lo) / 2 : Nat) : Int) := by
  rw [wrap_u64, wrap_u64]; omega
theorem refLeaves_any {s : Nat} (hs : s < 18446744073709551616) (w : World) :
    Calls Try.prog 21 #[.int .u64 s] w fun e w' => ∃ r, leavesN s r ∧ e = .returned (.tuple #[.int .u64 r.1, .bool r.2]) ∧ w = w' := by
  go_enter Try.func21, Try.ntmps21
  go_wp2
  go_loop [4, 5, 6, 7, 8] (fun l h _ _ _ => ∃ lo hi : Nat, l = .int .u64 lo ∧ h = .int .u64 hi ∧ Between s lo hi) (fun l h _ _ _ => (intOf h).toNat - (intOf l).toNat)
  case atStart => exact ⟨0, 4611686018427387904, rfl, rfl, by omega, by omega, fun j hj => by omega, .inl rfl⟩
  case round =>
    obtain ⟨lo, hi, rfl, rfl, bt⟩ := hrel
    have b1 := bt.1
    have b2 := bt.2.1
    by_cases hlt : lo < hi
    · obtain ⟨m, hm⟩ : ∃ m : Nat, m = lo + (hi - lo) / 2 := ⟨_, rfl⟩
      have m1 : lo ≤ m := by omega
      have m2 : m < hi := by omega
      have m3 : m ≤ 4611686018427387904 := by omega
      have MI : (lo : Int) + ((hi : Int) - (lo : Int)) / 2 = (m : Int) := by omega
      have up := bt.up m1 m2
      have dn := bt.down m1 m2
      have HB := Lib.hid bt
      clear bt hm
      obtain ⟨q, hq⟩ : ∃ q, nodeN m = q := ⟨_, rfl⟩
      have qb := nodeN_mono_le m3
      rw [nodes_most, hq] at qb
      have HQ := Lib.hid hq
      rw [hq] at up dn
      clear hq
      by_cases hc : q < s
      · have U := Lib.hid (up hc)
        clear up dn
        go_wp2_with fail
        refine (refNodes_any m3 _).mono ?_
        rintro e w' ⟨rfl, rfl⟩
        rw [HQ.out]
        go_wp2
        go_round
        case rel => exact ⟨m + 1, hi, by go_num, rfl, U.out⟩
        case measure => simp [intOf]; omega
      · have D := Lib.hid (dn hc)
        clear up dn
        go_wp2_with fail
        refine (refNodes_any m3 _).mono ?_
        rintro e w' ⟨rfl, rfl⟩
        rw [HQ.out]
        go_wp2
        go_round
        case rel => exact ⟨lo, m, rfl, rfl, D.out⟩
        case measure => simp [intOf]; omega
    · obtain rfl : lo = hi := by omega
      obtain ⟨q, hq⟩ : ∃ q, nodeN lo = q := ⟨_, rfl⟩
      have ys := bt.yes
      have no := bt.no
      have HQ := Lib.hid hq
      rw [hq] at ys no
      clear bt hq
      by_cases he : q = s
      · subst he
        have Y := Lib.hid (ys rfl)
        clear ys no
        go_wp2_with fail
        refine (refNodes_any b2 _).mono ?_
        rintro e w' ⟨rfl, rfl⟩
        rw [HQ.out]
        go_wp2
        go_ret2
        exact ⟨_, Y.out, rfl, rfl⟩
      · have Y := Lib.hid (no he)
        have i1 : ((q : Int) == (s : Int)) = false := beq_eq_false_iff_ne.2 (by omega)
        clear ys no he
        go_wp2_with fail
        refine (refNodes_any b2 _).mono ?_
        rintro e w' ⟨rfl, rfl⟩
        rw [HQ.out]
        go_wp2
        go_ret2
        exact ⟨_, Y.out, rfl, rfl⟩

theorem leaves_both {s : Nat} (hs : s < 18446744073709551616) : ∃ (a : Nat) (c : Bool), (∀ w : World, Calls Try.prog 20 #[.int .u64 s] w fun e w' => e = .returned (.tuple #[.int .u64 a, .bool c]) ∧ w = w') ∧
    (∀ w : World, Calls Try.prog 21 #[.int .u64 s] w fun e w' => e = .returned (.tuple #[.int .u64 a, .bool c]) ∧ w = w') := by
  by_cases h : ∃ n, n ≤ 4611686018427387904 ∧ nodeN n = s
  · obtain ⟨n, hn, rfl⟩ := h
    refine ⟨n, true, Leaves_yes hn, fun w => (refLeaves_any hs w).mono ?_⟩
    rintro e w' ⟨r, hr, rfl, hw⟩
    rcases hr with ⟨m, _, hm, rfl⟩ | ⟨hno, _⟩
    · have : m = n := by
        rcases Nat.lt_trichotomy m n with h | h | h
        · have := nodeN_mono h; omega
        · exact h
        · have := nodeN_mono h; omega
      subst this
      exact ⟨rfl, hw⟩
    · exact absurd rfl (hno n hn)
  · have hno : ∀ n, n ≤ 4611686018427387904 → nodeN n ≠ s := fun n hn e => h ⟨n, hn, e⟩
    refine ⟨0, false, Leaves_no hs hno, fun w => (refLeaves_any hs w).mono ?_⟩
    rintro e w' ⟨r, hr, rfl, hw⟩
    rcases hr with ⟨m, h1, h2, _⟩ | ⟨_, rfl⟩
    · exact absurd h2 (hno m h1)
    · exact ⟨rfl, hw⟩
theorem nodes_both (n : Nat) : ∃ (a : Nat) (c : Bool), (∀ w : World, Calls Try.prog 18 #[.int .u64 n] w fun e w' => e = .returned (.tuple #[.int .u64 a, .bool c]) ∧ w = w') ∧
    (∀ w : World, Calls Try.prog 19 #[.int .u64 n] w fun e w' => e = .returned (.tuple #[.int .u64 a, .bool c]) ∧ w = w') := by
  by_cases h : n ≤ 4611686018427387904
  · exact ⟨nodeN n, true, Nodes_yes h, refNodes_any h⟩
  · exact ⟨0, false, Nodes_no (by omega), refNodes_no (by omega)⟩
end Go.Proofs.Ytkiomgnjjijbgaa
