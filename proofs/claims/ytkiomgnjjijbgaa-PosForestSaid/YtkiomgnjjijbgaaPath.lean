/-
  The walks of pos.height, pos.Peak and pos.Path.
-/
import Derived.Test.YtkiomgnjjijbgaaWay
namespace Go.Proofs.Ytkiomgnjjijbgaa
open Go.RowKit
set_option linter.unusedVariables false

theorem height_yes {i n : Nat} (h : i < n) (hn : n ≤ 4611686018427387904) (w : World) :
    Calls Try.prog 52 #[.int .u64 i, .int .u64 n] w fun e w' => e = .returned (.int .i64 (overN i n : Nat)) ∧ w = w' := by
  have X := u64_xor_nat i n (by omega) (by omega)
  have hx : i ^^^ n < 2 ^ 63 := Nat.xor_lt_two_pow (by omega) (by omega)
  have H := High_any (x := i ^^^ n) (by omega)
  rw [(over_spec h hn).1] at H
  have e : ((overN i n + 1 : Nat) : Int) - 1 = ((overN i n : Nat) : Int) := by omega
  rw [e] at H
  clear e hx
  generalize overN i n = t at *
  generalize i ^^^ n = y at *
  go_enter Try.func52, Try.ntmps52
  go_wp2_with fail
  refine (H _).mono ?_
  rintro e w' ⟨rfl, rfl⟩
  go_wp2
  go_ret
  exact ⟨rfl, rfl⟩
theorem Peak_no {i n : Nat} (h : ¬ (n ≤ 4611686018427387904 ∧ i < n)) (w : World) :
    Calls Try.prog 42 #[.int .u64 i, .int .u64 n] w fun e w' => e = .returned (.tuple #[.int .i64 0, .bool false]) ∧ w = w' := by
  by_cases h0 : n ≤ 4611686018427387904
  · have i0 : (n : Int) ≤ 4611686018427387904 := by omega
    have i1 : (n : Int) ≤ (i : Int) := by omega
    clear h h0
    go_enter Try.func42, Try.ntmps42
    go_wp2
    go_ret2
    exact ⟨rfl, rfl⟩
  · have i0 : (4611686018427387904 : Int) < (n : Int) := by omega
    clear h h0
    go_enter Try.func42, Try.ntmps42
    go_wp2
    go_ret2
    exact ⟨rfl, rfl⟩
theorem Peak_yes {i n : Nat} (h : i < n) (hn : n ≤ 4611686018427387904) (w : World) :
    Calls Try.prog 42 #[.int .u64 i, .int .u64 n] w fun e w' => e = .returned (.tuple #[.int .i64 (ones (n / 2 ^ (overN i n + 1)) : Nat), .bool true]) ∧ w = w' := by
  have H := height_yes h hn
  have ht := (over_spec h hn).2.1
  have i0 : (n : Int) ≤ 4611686018427387904 := by omega
  have i1 : (i : Int) < (n : Int) := by omega
  have DV := div_min (x := n) (by omega) (overN i n)
  rw [show min (overN i n) 64 = overN i n by omega] at DV
  have e : n / 2 ^ (overN i n + 1) = n / 2 ^ overN i n / 2 := by rw [Nat.div_div_eq_div_mul, Nat.pow_succ]
  rw [e]
  clear e
  generalize overN i n = t at *
  have hq64 := Nat.div_le_self n (2 ^ t)
  generalize n / 2 ^ t = q at *
  have O := Ones_any (x := q / 2) (by omega)
  have D2 : (q : Int) / 2 = ((q / 2 : Nat) : Int) := by omega
  generalize q / 2 = u at *
  go_enter Try.func42, Try.ntmps42
  go_wp2_with fail
  refine (H _).mono ?_
  rintro e w' ⟨rfl, rfl⟩
  go_wp2_with fail
  refine (O _).mono ?_
  rintro e w' ⟨rfl, rfl⟩
  go_wp2
  go_ret2
  exact ⟨rfl, rfl⟩
theorem Path_no {i n : Nat} (h : ¬ (n ≤ 4611686018427387904 ∧ i < n)) (w : World) :
    Calls Try.prog 41 #[.int .u64 i, .int .u64 n] w fun e w' => e = .returned (.tuple #[.slice none 0 0, .bool false]) ∧ w = w' := by
  have P := Peak_no h
  clear h
  go_enter Try.func41, Try.ntmps41
  go_wp2_with fail
  refine (P _).mono ?_
  rintro e w' ⟨rfl, rfl⟩
  go_wp2
  go_ret2
  exact ⟨rfl, rfl⟩
def PaRel (i t base : Nat) (w : World) (v c : Value) (wr : World) : Prop :=
  ∃ x : Nat, x ≤ t ∧ c = .int .i64 (x : Int) ∧ wr.ownsRow base 22 1 v x (u64s (wayF i x)) ∧ Below base w wr
theorem Path_yes {i n : Nat} (h : i < n) (hn : n ≤ 4611686018427387904) (w : World) :
    Calls Try.prog 41 #[.int .u64 i, .int .u64 n] w fun e w' => ∃ v, e = .returned (.tuple #[v, .bool true]) ∧ w'.ownsRow w.heap.size 22 1 v (overN i n) (u64s (wayF i (overN i n))) ∧ Below w.heap.size w w' := by
  obtain ⟨i0, hi, hz0, hz1, hz2⟩ := info_parts info_u64
  generalize hB : w.heap.size = B
  have HB := Lib.hid hB
  clear hB
  have P := Peak_yes h hn
  have H := height_yes h hn
  have ht := (over_spec h hn).2.1
  have hi62 : i < 4611686018427387904 := by omega
  have HI := Lib.hid hi62
  generalize ones (n / 2 ^ (overN i n + 1)) = pk at *
  generalize overN i n = t at *
  clear h hi62
  go_enter Try.func41, Try.ntmps41
  go_wp2_with fail
  refine (P _).mono ?_
  rintro e w' ⟨rfl, rfl⟩
  go_wp2_with fail
  refine (H _).mono ?_
  rintro e w' ⟨rfl, rfl⟩
  go_wp2
  go_loopw [8, 23] (fun v c wr => PaRel i t B w v c wr) (fun _ c _ => t - (intOf c).toNat)
  case atStart => exact ⟨0, by omega, rfl, World.ownsRow_nil _ _ _ _, Below.refl _ _⟩
  case round =>
    obtain ⟨x, hx, rfl, hown, hbel⟩ := hrel
    have hBw : B ≤ wr.heap.size := by rw [← HB.out]; exact hbel.size
    by_cases hlt : x < t
    · have i1 : (x : Int) < (t : Int) := by omega
      have r := right_sib (way_right HI.out (x := x) (by omega)) (by omega)
      have DV := div_min (x := i) (by have := HI.out; omega) x
      rw [show min x 64 = x by omega] at DV
      have XO := xor1_u64 (y := i / 2 ^ x) (by have := right_k (way_right HI.out (x := x) (by omega)); omega)
      have E := Lib.hid (show wayF i (x + 1) = wayF i x ++ [placeN x (sibN (i / 2 ^ x))] from rfl)
      have sl := right_k r
      generalize i / 2 ^ x = q at *
      generalize sibN q = s at *
      have L := wayF_len i x
      generalize wayF i x = pre at *
      have x255 : (x : Int) ≤ 62 := by omega
      go_wp2_with fail
      refine (Place_yes r _).mono ?_
      rintro e w1 ⟨rfl, bel1⟩
      have hown1 := own_below hown bel1
      have bel2 : Below B w w1 := hbel.trans (bel1.mono hBw)
      have hB1 : B ≤ w1.heap.size := Nat.le_trans hBw bel1.size
      clear hown bel1
      go_wp2_with (at_builtin; refine wpList_append_own _ rfl _ _ 36 rfl B 22 i0 (.int .u64 0) 1 8 Try.underlying36 hi hz0 hz1 hz2 rfl (by decide) _ _ _ rfl (hown1.alloc _) ⟨w1.heap.size, 0, none⟩ 1 1 [.int .u64 (placeN x s : Int)] rfl rfl (new_cell _ _ _) (one_cell _ _) (by unfold maxLen; omega) (by omega) (by simp; omega) ?_; intro v' w2 hown2 hg2 _)
      go_roundw
      case rel =>
        refine ⟨x + 1, by omega, by go_num, ?_, ?_⟩
        · rw [E.out]
          simpa [u64s] using hown2
        · exact ((bel2.alloc hB1 _).grown hg2 (by simp; omega) fun k hk => (hown1.lt k hk).1)
      case measure => simp [intOf]; omega
    · obtain rfl : x = t := by omega
      go_wp2
      exact bodyPost_ret (by simp [results, Try.results41, go_sem]) rfl ⟨_, rfl, hown, hbel⟩
end Go.Proofs.Ytkiomgnjjijbgaa
