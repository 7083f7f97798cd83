/-
  The reference's Big, FromBig and Short.
-/
import Derived.Test.YtlmihaeknmeeiaaBig
namespace Go.Proofs.Ytlmihaeknmeeiaa
open Go.RowKit
set_option linter.unusedVariables false

theorem refFromBig_long {l : List Nat} {v : Value} (w : World) (hv : SliceOf u8c w v l) (h8 : 8 < l.length) :
    Calls Try.prog 41 #[v] w fun e w' => e = .returned (.tuple #[.int .u64 0, .int .i64 2]) ∧ w = w' := by
  obtain ⟨a, ca, rfl, a1, a2, a3, a4⟩ := hv.form
  have i0 : (8 : Int) < (l.length : Int) := by omega
  clear a1 a2 a3 a4 hv
  go_enter Try.func41, Try.ntmps41
  go_wp2
  go_ret2
  exact ⟨rfl, rfl⟩
theorem refFromBig_any {l : List Nat} {v : Value} (w : World) (hv : SliceOf u8c w v l) (hB : Bytes l) (h8 : l.length ≤ 8) :
    Calls Try.prog 41 #[v] w fun e w' => e = .returned (.tuple #[.int .u64 (bigV l : Int), .int .i64 0]) ∧ w = w' := by
  obtain ⟨a, ca, rfl, a1, a2, a3, a4⟩ := hv.form
  have A3 := Lib.hid a3
  have A4 := Lib.hid a4
  have i0 : (l.length : Int) ≤ 8 := by omega
  clear a1 a2 a3 a4 hv
  go_enter Try.func41, Try.ntmps41
  go_wp2
  go_loop [4, 5] (fun x i => ∃ k : Nat, k ≤ l.length ∧ i = .int .i64 k ∧ x = .int .u64 (bigV (l.take k) : Int)) (fun _ i => l.length - (intOf i).toNat)
  case atStart => exact ⟨0, by omega, rfl, rfl⟩
  case round =>
    obtain ⟨k, hk, rfl, rfl⟩ := hrel
    by_cases hlt : k < l.length
    · obtain ⟨c, hc⟩ : ∃ c, l[k]? = some c := ⟨l[k], List.getElem?_eq_getElem hlt⟩
      obtain ⟨b, off, rfl⟩ := A3.out k c hc
      have hcell := A4.out b off rfl k c hc
      unfold u8c at hcell
      have hcb := hB.at hc
      have hlo := bigV_lt hB k
      have hp : 256 ^ k ≤ 256 ^ 7 := pow256 (by omega)
      have h7 : (256 : Nat) ^ 7 = 72057594037927936 := by decide
      have hlo2 : bigV (l.take k) ≤ 72057594037927935 := by omega
      have S := Lib.hid (bigV_take hc)
      clear hlo hp h7 hc
      have i1 : (k : Int) < (l.length : Int) := by omega
      generalize bigV (l.take k) = x at *
      have hlo3 : (x : Int) ≤ 72057594037927935 := by omega
      go_wp2
      go_round
      case rel => exact ⟨k + 1, by omega, by go_num, by rw [S.out]; go_num⟩
      case measure => simp [intOf]; omega
    · obtain rfl : k = l.length := by omega
      go_wp2
      go_ret2
      exact ⟨rfl, rfl⟩
theorem from_both {l : List Nat} (hB : Bytes l) : ∃ (x e : Nat), (∀ (w : World) v, SliceOf u8c w v l → Calls Try.prog 37 #[v] w fun r w' => r = .returned (.tuple #[.int .u64 (x : Int), .int .i64 (e : Int)]) ∧ w = w') ∧
    (∀ (w : World) v, SliceOf u8c w v l → Calls Try.prog 41 #[v] w fun r w' => r = .returned (.tuple #[.int .u64 (x : Int), .int .i64 (e : Int)]) ∧ w = w') := by
  by_cases h : l.length ≤ 8
  · exact ⟨bigV l, 0, fun w v hv => FromBig_any w hv hB h, fun w v hv => refFromBig_any w hv hB h⟩
  · exact ⟨0, 2, fun w v hv => FromBig_long w hv (by omega), fun w v hv => refFromBig_long w hv (by omega)⟩

/-! ### Big -/
theorem refBig_out {x : Nat} {n : Int} (h : n < 0 ∨ 8 < n) (w : World) :
    Calls Try.prog 40 #[.int .u64 x, .int .i64 n] w fun e w' => e = .returned (.tuple #[.slice none 0 0, .int .i64 1]) ∧ w = w' := by
  by_cases hn : n < 0
  · go_enter Try.func40, Try.ntmps40
    go_wp2
    go_ret2
    exact ⟨rfl, rfl⟩
  · have h8 : 8 < n := by omega
    go_enter Try.func40, Try.ntmps40
    go_wp2
    go_ret2
    exact ⟨rfl, rfl⟩
set_option maxHeartbeats 800000 in
theorem refBig_in {x : Nat} (hx : x < 18446744073709551616) {m : Nat} (hm : m ≤ 8) (w : World) :
    Calls Try.prog 40 #[.int .u64 x, .int .i64 m] w fun e w' => (∃ v, e = .returned (.tuple #[v, .int .i64 ((if x < 256 ^ m then 0 else 10 : Nat) : Int)]) ∧ SliceOf u8c w' v (if x < 256 ^ m then bigL x m else [])) ∧ Below w.heap.size w w' := by
  obtain ⟨i0, hi, hz0, hz1, hz2⟩ := info_parts info_u8
  have im : (m : Int) ≤ 8 := by omega
  generalize hB : w.heap.size = B
  have HB := Lib.hid hB
  have HX := Lib.hid hx
  clear hB hx
  go_enter Try.func40, Try.ntmps40
  go_wp2_with (at_make; refine wpList_make_full _ rfl (.tmp 14) (.tmp 14) 38 rfl B 5 i0 (.int .u8 0) 1 Try.underlying38 hi hz0 hz1 .i64 .i64 _ _ m rfl rfl rfl rfl ?b2 ?b3 ?b4 ?_; (case b2 => (rw [hz2]; omega)); (case b3 => (unfold maxLen; omega)); (case b4 => exact Nat.le_of_eq HB.out.symm); intro w1 hown hg)
  have hz : (madeCells (Value.cells (.int .u8 0)) (m * 1)).toList = rowL m (fun j => if m - 1 - j < 0 then x / 256 ^ (m - 1 - j) % 256 else 0) := by
    rw [rowL_made]
    exact rowL_congr fun j _ => by rw [if_neg (by omega)]
  rw [hz] at hown
  have hb : Below B w w1 := ⟨hg.os, hg.tape, hg.output, hg.size, fun k hk => hg.block k (by have := HB.out; omega) (by simp)⟩
  clear hz hg
  have hBe := HB.out
  rw [hBe] at hown ⊢
  go_loopw [0, 7] (fun y i wr => ∃ k : Nat, k ≤ m ∧ i = .int .i64 ((m : Int) - 1 - (k : Int)) ∧ y = .int .u64 ((x / 256 ^ k : Nat) : Int) ∧ wr.ownsRow B 5 1 (.slice (some ⟨B, 0, none⟩) m m) m (rowL m (fun j => if m - 1 - j < k then x / 256 ^ (m - 1 - j) % 256 else 0)) ∧ Below B w wr) (fun _ i _ => (intOf i + 1).toNat)
  case atStart => exact ⟨0, by omega, by go_num, by simp, hown, hb⟩
  case round =>
    obtain ⟨k, hk, rfl, rfl, hown, hbr⟩ := hrel
    clear hb
    by_cases hlt : k < m
    · obtain ⟨v0, hc⟩ : ∃ v0, wr.cell? ⟨B, m - 1 - k, none⟩ = some v0 := ⟨_, own_cell hown (rowL_get m _ (show m - 1 - k < m by omega))⟩
      have hf := hown.frozenAt (m - 1 - k)
      have hst := (hown.stored (m - 1 - k) (.int .u8 ((x / 256 ^ k % 256 : Nat) : Int))).1
      rw [rowL_set] at hst
      have hrow : rowL m (fun i => if i = m - 1 - k then x / 256 ^ k % 256 else if m - 1 - i < k then x / 256 ^ (m - 1 - i) % 256 else 0) = rowL m (fun j => if m - 1 - j < k + 1 then x / 256 ^ (m - 1 - j) % 256 else 0) := rowL_congr fun j hj => by
        by_cases e : j = m - 1 - k
        · rw [if_pos e, if_pos (by omega), show m - 1 - j = k by omega]
        · rw [if_neg e]
          by_cases e2 : m - 1 - j < k
          · rw [if_pos e2, if_pos (by omega)]
          · rw [if_neg e2, if_neg (by omega)]
      rw [hrow] at hst
      have HST := Lib.hid hst
      have DV := Lib.hid (show x / 256 ^ (k + 1) = x / 256 ^ k / 256 by rw [Nat.pow_succ, Nat.div_div_eq_div_mul])
      have HH := Lib.hid hown
      clear hown hst hrow
      obtain ⟨d, hd⟩ : ∃ d, m - 1 - k = d := ⟨_, rfl⟩
      have e1 : (m : Int) - 1 - (k : Int) = (d : Int) := by omega
      have e2 : (m : Int) - 1 - ((k + 1 : Nat) : Int) = (d : Int) - 1 := by omega
      have id : (d : Int) < (m : Int) := by omega
      rw [hd] at hc hf HST
      have E2 := Lib.hid e2
      rw [e1]
      clear e1 e2 hd
      have hq := Nat.div_le_self x (256 ^ k)
      generalize x / 256 ^ k = q at *
      have hqi : (q : Int) ≤ 18446744073709551615 := by have := HX.out; omega
      go_wp2
      go_roundw
      case rel => exact ⟨k + 1, by omega, by rw [E2.out], by rw [DV.out]; go_num, HST.out, hbr.setCell (Nat.le_refl _) _⟩
      case measure => simp [intOf]
    · obtain rfl : k = m := by omega
      have hrow : rowL k (fun j => if k - 1 - j < k then x / 256 ^ (k - 1 - j) % 256 else 0) = u8s (bigL x k) := by
        rw [← rowL_big]
        exact rowL_congr fun j hj => by rw [if_pos (by omega)]
      rw [hrow] at hown
      have HO := Lib.hid hown
      clear hown hrow
      have e1 : (k : Int) - 1 - (k : Int) = -1 := by omega
      rw [e1]
      clear e1
      by_cases h0 : x < 256 ^ k
      · rw [Nat.div_eq_of_lt h0]
        have E0 := Lib.hid h0
        clear h0
        go_wp2
        go_ret2
        all_goals first | exact ⟨⟨_, rfl, SliceOf.of_own HO.out rfl⟩, hbr⟩ | exact absurd E0.out (by assumption)
      · have hp : 0 < x / 256 ^ k := Nat.div_pos (by omega) (Nat.pow_pos (by decide))
        have E0 := Lib.hid h0
        clear h0
        generalize x / 256 ^ k = q at *
        have hpi : (0 : Int) < (q : Int) := by omega
        go_wp2
        go_ret2
        all_goals first | exact ⟨⟨_, rfl, SliceOf.nil⟩, hbr⟩ | exact absurd (by assumption) E0.out
theorem big_both {x : Nat} (hx : x < 18446744073709551616) (n : Int) : ∃ (L : List Nat) (e : Nat), (∀ w : World, Calls Try.prog 38 #[.int .u64 x, .int .i64 n] w fun r w' => (∃ v, r = .returned (.tuple #[v, .int .i64 (e : Int)]) ∧ SliceOf u8c w' v L) ∧ Below w.heap.size w w') ∧
    (∀ w : World, Calls Try.prog 40 #[.int .u64 x, .int .i64 n] w fun r w' => (∃ v, r = .returned (.tuple #[v, .int .i64 (e : Int)]) ∧ SliceOf u8c w' v L) ∧ Below w.heap.size w w') := by
  by_cases h : n < 0 ∨ 8 < n
  · refine ⟨[], 1, fun w => (Big_out h w).mono ?_, fun w => (refBig_out h w).mono ?_⟩
    all_goals
      rintro r w' ⟨rfl, rfl⟩
      exact ⟨⟨_, rfl, SliceOf.nil⟩, Below.refl _ _⟩
  · obtain ⟨m, rfl⟩ : ∃ m : Nat, n = m := ⟨n.toNat, by omega⟩
    have hm : m ≤ 8 := by omega
    have R := refBig_in hx hm
    by_cases h0 : x < 256 ^ m
    · rw [if_pos h0, if_pos h0] at R
      refine ⟨_, 0, fun w => (Big_fits hx hm h0 w).mono ?_, R⟩
      rintro r w' ⟨v, rfl, hown, hb⟩
      exact ⟨⟨v, rfl, SliceOf.of_own hown rfl⟩, hb⟩
    · rw [if_neg h0, if_neg h0] at R
      refine ⟨[], 10, fun w => (Big_over hx hm (by omega) w).mono ?_, R⟩
      rintro r w' ⟨rfl, rfl⟩
      exact ⟨⟨_, rfl, SliceOf.nil⟩, Below.refl _ _⟩
end Go.Proofs.Ytlmihaeknmeeiaa
