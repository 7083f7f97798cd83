/-
  num.FromBig and num.Big.
-/
import Derived.Test.YtcifnfffoiiceaaDoorSlice
namespace Go.Proofs.YtcifnfffoiiceaaDoor
open Go.RowKit
set_option linter.unusedVariables false

def bigV (l : List Nat) : Nat := l.foldl (fun n c => 256 * n + c) 0
theorem bigV_snoc (l : List Nat) (c : Nat) : bigV (l ++ [c]) = 256 * bigV l + c := by simp [bigV]
theorem bigV_take {l : List Nat} {k c : Nat} (h : l[k]? = some c) : bigV (l.take (k + 1)) = 256 * bigV (l.take k) + c := by
  rw [List.take_add_one, h]
  exact bigV_snoc _ _
theorem bigV_lt {l : List Nat} (hB : Bytes l) : ∀ k, bigV (l.take k) < 256 ^ k
  | 0 => by simp [bigV]
  | k + 1 => by
    have ih := bigV_lt hB k
    cases h : l[k]? with
    | none =>
      have hn : l.length ≤ k := List.getElem?_eq_none_iff.1 h
      rw [List.take_of_length_le (by omega)]
      rw [List.take_of_length_le hn] at ih
      rw [Nat.pow_succ]
      have : 0 < 256 ^ k := Nat.pow_pos (by decide)
      omega
    | some c =>
      have := hB.at h
      rw [bigV_take h, Nat.pow_succ]
      omega
theorem pow256 {k m : Nat} (h : k ≤ m) : (256 : Nat) ^ k ≤ 256 ^ m := Nat.pow_le_pow_right (by decide) h

theorem or_low {x c : Nat} (hx : x < 72057594037927936) (hc : c < 256) : bits .or .u64 ((x : Int) * 256) (c : Int) = ((256 * x + c : Nat) : Int) := by
  have l1 : x * 256 < 18446744073709551616 := by omega
  have l2 : c < 18446744073709551616 := by omega
  have h := u64_or_nat (x * 256) c l1 l2
  have e : ((x * 256 : Nat) : Int) = (x : Int) * 256 := by omega
  have hm : x * 256 % 2 ^ 8 = 0 := Nat.mul_mod_left x 256
  have hj := nat_join 8 (x * 256) c hm hc
  rw [e] at h
  rw [h, hj, Nat.mul_comm]

theorem ret2_u {a b : Nat} {c d : Int} (h : a = b) (h' : c = d) : Ending.returned (.tuple #[.int .u64 (a : Int), .int .i64 c]) = .returned (.tuple #[.int .u64 (b : Int), .int .i64 d]) := by rw [h, h']

theorem FromBig_long {l : List Nat} {v : Value} (w : World) (hv : SliceOf u8c w v l) (h8 : 8 < l.length) :
    Calls Tryd.prog 63 #[v] w fun e w' => e = .returned (.tuple #[.int .u64 0, .int .i64 2]) ∧ w = w' := by
  obtain ⟨a, ca, rfl, a1, a2, a3, a4⟩ := hv.form
  have i0 : (8 : Int) < (l.length : Int) := by omega
  clear a1 a2 a3 a4 hv
  go_enter Tryd.func63, Tryd.ntmps63
  go_wp2
  go_ret2
  exact ⟨rfl, rfl⟩
theorem FromBig_any {l : List Nat} {v : Value} (w : World) (hv : SliceOf u8c w v l) (hB : Bytes l) (h8 : l.length ≤ 8) :
    Calls Tryd.prog 63 #[v] w fun e w' => e = .returned (.tuple #[.int .u64 (bigV l : Int), .int .i64 0]) ∧ w = w' := by
  obtain ⟨a, ca, rfl, a1, a2, a3, a4⟩ := hv.form
  have A3 := Lib.hid a3
  have A4 := Lib.hid a4
  have i0 : (l.length : Int) ≤ 8 := by omega
  clear a1 a2 a3 a4 hv
  go_enter Tryd.func63, Tryd.ntmps63
  go_wp2
  go_loop [4, 6, 12] (fun x _ i => ∃ k : Nat, k ≤ l.length ∧ i = .int .i64 k ∧ x = .int .u64 (bigV (l.take k) : Int)) (fun _ _ i => l.length - (intOf i).toNat)
  case atStart => exact ⟨0, by omega, rfl, rfl⟩
  case round =>
    obtain ⟨k, hk, rfl, rfl⟩ := hrel
    by_cases hlt : k < l.length
    · obtain ⟨c, hc⟩ : ∃ c, l[k]? = some c := ⟨l[k], List.getElem?_eq_getElem hlt⟩
      obtain ⟨b, off, rfl⟩ := A3.out k c hc
      have hcell := A4.out b off rfl k c hc
      unfold u8c at hcell
      have hcb := hB.at hc
      have hlo := bigV_lt hB k
      have hp : 256 ^ k ≤ 256 ^ 7 := pow256 (by omega)
      have h7 : (256 : Nat) ^ 7 = 72057594037927936 := by decide
      have hlo2 : bigV (l.take k) < 72057594037927936 := by omega
      have E := Lib.hid (or_low hlo2 hcb)
      have S := Lib.hid (bigV_take hc)
      clear hlo hp h7 hc
      have i1 : (k : Int) < (l.length : Int) := by omega
      generalize bigV (l.take k) = x at *
      go_wp2
      go_round
      case rel => exact ⟨k + 1, by omega, by go_num, by rw [S.out, ← E.out]⟩
      case measure => simp [intOf]; omega
    · obtain rfl : k = l.length := by omega
      go_wp2
      go_ret2
      exact ⟨rfl, rfl⟩

/-! ### Big -/
def bigL (x n : Nat) : List Nat := (List.range n).map fun j => x / 256 ^ (n - 1 - j) % 256
theorem bigL_length (x n : Nat) : (bigL x n).length = n := by simp [bigL]
theorem bigL_bytes (x n : Nat) : Bytes (bigL x n) := by
  intro c hc
  simp only [bigL, List.mem_map] at hc
  obtain ⟨j, _, rfl⟩ := hc
  exact Nat.mod_lt _ (by decide)
def rowL (n : Nat) (f : Nat → Nat) : List Value := (List.range n).map fun j => Value.int .u8 (f j : Int)
theorem rowL_set (n : Nat) (f : Nat → Nat) (k v : Nat) : (rowL n f).set k (.int .u8 (v : Int)) = rowL n (fun i => if i = k then v else f i) := by
  apply List.ext_getElem?
  intro i
  simp only [rowL, List.getElem?_set, List.getElem?_map, List.length_map, List.length_range]
  by_cases h : k = i
  · subst h
    by_cases hk : k < n
    · simp [hk]
    · simp [hk]
  · rw [if_neg h]
    by_cases hi : i < n
    · simp [hi, show ¬ i = k from fun e => h e.symm]
    · simp [hi]
theorem rowL_congr {n : Nat} {f g : Nat → Nat} (h : ∀ j, j < n → f j = g j) : rowL n f = rowL n g := by
  unfold rowL
  exact List.map_congr_left fun j hj => by rw [h j (List.mem_range.1 hj)]
theorem rowL_get (n : Nat) (f : Nat → Nat) {j : Nat} (hj : j < n) : (rowL n f)[j]? = some (.int .u8 (f j : Int)) := by simp [rowL, hj]
theorem rowL_big (x n : Nat) : rowL n (fun j => x / 256 ^ (n - 1 - j) % 256) = u8s (bigL x n) := by
  unfold rowL u8s bigL
  rw [List.map_map]
  rfl
theorem rowL_made (n : Nat) : (madeCells (Value.cells (.int .u8 0)) (n * 1)).toList = rowL n (fun _ => 0) := by
  rw [Nat.mul_one]
  simp only [madeCells, Array.toList_map, Array.toList_range, rowL]
  exact List.map_congr_left fun j _ => by
    have e : (Value.cells (.int .u8 0)) = #[.int .u8 0] := rfl
    rw [e]
    simp [Nat.mod_one]

theorem maskN_of {p : Nat} (hp : p ≤ 64) : maskN (p : Int) = 2 ^ p - 1 := by
  unfold maskN
  rw [Int.toNat_natCast, Nat.min_eq_left hp]
theorem field8 (x k : Nat) : fieldN x (8 * (k : Int)) 8 = x / 256 ^ k % 256 := by
  unfold fieldN shrN
  have e : maskN 8 = 2 ^ 8 - 1 := maskN_of (p := 8) (by decide)
  rw [if_neg (by omega), e, Nat.and_two_pow_sub_one_eq_mod]
  have e2 : (8 * (k : Int)).toNat = 8 * k := by omega
  rw [e2, Nat.pow_mul]
theorem shl_shr_of {x : Nat} (hx : x < 18446744073709551616) {p : Int} (hp : 0 ≤ p) : shlN (shrN x p) p = x &&& (18446744073709551615 - maskN p) := by
  apply eqB (shlN_lt _ (shrN_lt _ hx)) (and_lt _ hx)
  intro i hi
  rw [tb_shlN _ hi, Nat.testBit_and, tb_not (maskN_lt p) hi, tb_maskN _ hi]
  by_cases h : 0 ≤ (i : Int) - p
  · have e : (((((i : Int) - p).toNat : Nat) : Int) + p) = i := by omega
    rw [tb_shrN _ (by omega), e]
    simp only [h, decide_true, Bool.true_and, show (0 : Int) ≤ i by omega, show ¬ (i : Int) < p by omega, decide_false, Bool.not_false, Bool.and_true, Int.toNat_natCast]
  · simp only [h, decide_false, Bool.false_and, show (i : Int) < p by omega, decide_true, Bool.not_true, Bool.and_false]
theorem high_part {x m : Nat} (hx : x < 18446744073709551616) (hm : m ≤ 8) :
    (x &&& (18446744073709551615 - maskN (8 * (m : Int)))) = x / 256 ^ m * 256 ^ m := by
  have h := shl_shr_of hx (p := 8 * (m : Int)) (by omega)
  rw [← h]
  unfold shlN shrN
  have e2 : (8 * (m : Int)).toNat = 8 * m := by omega
  rw [if_neg (by omega), if_neg (by omega), e2, Nat.pow_mul]
  have e3 : (2 : Nat) ^ 8 = 256 := by decide
  rw [e3]
  have := Nat.div_mul_le_self x (256 ^ m)
  exact Nat.mod_eq_of_lt (by omega)

def bigE (x : Nat) (n : Int) : Int := if n < 0 ∨ 8 < n then 1 else if x < 256 ^ n.toNat then 0 else 10
def bigR (x : Nat) (n : Int) : List Nat := if bigE x n = 0 then bigL x n.toNat else []

theorem Big_out {x : Nat} {n : Int} (h : n < 0 ∨ 8 < n) (w : World) :
    Calls Tryd.prog 46 #[.int .u64 x, .int .i64 n] w fun e w' => e = .returned (.tuple #[.slice none 0 0, .int .i64 1]) ∧ w = w' := by
  by_cases hn : n < 0
  · go_enter Tryd.func46, Tryd.ntmps46
    go_wp2
    go_ret2
    exact ⟨rfl, rfl⟩
  · have h8 : 8 < n := by omega
    go_enter Tryd.func46, Tryd.ntmps46
    go_wp2
    go_ret2
    exact ⟨rfl, rfl⟩
theorem Big_over {x : Nat} (hx : x < 18446744073709551616) {m : Nat} (hm : m ≤ 8) (h : 256 ^ m ≤ x) (w : World) :
    Calls Tryd.prog 46 #[.int .u64 x, .int .i64 m] w fun e w' => e = .returned (.tuple #[.slice none 0 0, .int .i64 10]) ∧ w = w' := by
  have E := u64_andNot_nat x (maskN (8 * (m : Int))) hx (maskN_lt _)
  rw [high_part hx hm] at E
  have hne : (((x / 256 ^ m * 256 ^ m : Nat) : Int) != 0) = true := by
    rw [bne_iff_ne]
    have h1 : 0 < x / 256 ^ m := Nat.div_pos h (Nat.pow_pos (by decide))
    have h2 : 0 < 256 ^ m := Nat.pow_pos (by decide)
    have h3 := Nat.mul_pos h1 h2
    omega
  have HE := Lib.hid E
  have i0 : (m : Int) ≤ 8 := by omega
  clear E h
  go_enter Tryd.func46, Tryd.ntmps46
  go_wp2_with fail
  refine (Mask_any (by omega) (by omega) _).mono ?_
  rintro e w' ⟨rfl, rfl⟩
  have E := HE.out
  generalize x / 256 ^ m * 256 ^ m = q at *
  go_wp2
  go_ret2
  exact ⟨rfl, rfl⟩

set_option maxHeartbeats 800000 in
theorem Big_fits {x : Nat} (hx : x < 18446744073709551616) {m : Nat} (hm : m ≤ 8) (h : x < 256 ^ m) (w : World) :
    Calls Tryd.prog 46 #[.int .u64 x, .int .i64 m] w fun e w' => ∃ v, e = .returned (.tuple #[v, .int .i64 0]) ∧ w'.ownsRow w.heap.size 5 1 v m (u8s (bigL x m)) ∧ Below w.heap.size w w' := by
  have E := u64_andNot_nat x (maskN (8 * (m : Int))) hx (maskN_lt _)
  rw [high_part hx hm, Nat.div_eq_of_lt h, Nat.zero_mul] at E
  obtain ⟨i0, hi, hz0, hz1, hz2⟩ := info_parts info_u8
  have HE := Lib.hid E
  have im : (m : Int) ≤ 8 := by omega
  generalize hB : w.heap.size = B
  have HB := Lib.hid hB
  clear E h hB
  go_enter Tryd.func46, Tryd.ntmps46
  go_wp2_with fail
  refine (Mask_any (by omega) (by omega) _).mono ?_
  rintro e w' ⟨rfl, rfl⟩
  have E := HE.out
  go_wp2_with (at_make; refine wpList_make_full _ rfl (.tmp 22) (.tmp 22) 29 rfl B 5 i0 (.int .u8 0) 1 Tryd.underlying29 hi hz0 hz1 .i64 .i64 _ _ m rfl rfl rfl rfl ?b2 ?b3 ?b4 ?_; (case b2 => (rw [hz2]; omega)); (case b3 => (unfold maxLen; omega)); (case b4 => exact Nat.le_of_eq HB.out.symm); intro w1 hown hg)
  have hz : (madeCells (Value.cells (.int .u8 0)) (m * 1)).toList = rowL m (fun j => if m - 1 - j < 0 then x / 256 ^ (m - 1 - j) % 256 else 0) := by
    rw [rowL_made]
    exact rowL_congr fun j _ => by rw [if_neg (by omega)]
  rw [hz] at hown
  have hb : Below B w w1 := ⟨hg.os, hg.tape, hg.output, hg.size, fun k hk => hg.block k (by have := HB.out; omega) (by simp)⟩
  clear hz hg
  have hBe := HB.out
  rw [hBe] at hown ⊢
  go_loopw [7, 26] (fun _ i wr => ∃ k : Nat, k ≤ m ∧ i = .int .i64 k ∧ wr.ownsRow B 5 1 (.slice (some ⟨B, 0, none⟩) m m) m (rowL m (fun j => if m - 1 - j < k then x / 256 ^ (m - 1 - j) % 256 else 0)) ∧ Below B w wr) (fun _ i _ => m - (intOf i).toNat)
  case atStart => exact ⟨0, by omega, rfl, hown, hb⟩
  case round =>
    obtain ⟨k, hk, rfl, hown, hbr⟩ := hrel
    clear hb
    by_cases hlt : k < m
    · obtain ⟨v0, hc⟩ : ∃ v0, wr.cell? ⟨B, m - 1 - k, none⟩ = some v0 := ⟨_, own_cell hown (rowL_get m _ (show m - 1 - k < m by omega))⟩
      have hf := hown.frozenAt (m - 1 - k)
      have hst := (hown.stored (m - 1 - k) (.int .u8 ((x / 256 ^ k % 256 : Nat) : Int))).1
      rw [rowL_set] at hst
      have hrow : rowL m (fun i => if i = m - 1 - k then x / 256 ^ k % 256 else if m - 1 - i < k then x / 256 ^ (m - 1 - i) % 256 else 0) = rowL m (fun j => if m - 1 - j < k + 1 then x / 256 ^ (m - 1 - j) % 256 else 0) := rowL_congr fun j hj => by
        by_cases e : j = m - 1 - k
        · rw [if_pos e, if_pos (by omega), show m - 1 - j = k by omega]
        · rw [if_neg e]
          by_cases e2 : m - 1 - j < k
          · rw [if_pos e2, if_pos (by omega)]
          · rw [if_neg e2, if_neg (by omega)]
      rw [hrow] at hst
      have HST := Lib.hid hst
      have F8 := Lib.hid (field8 x k)
      have hv : x / 256 ^ k % 256 < 256 := Nat.mod_lt _ (by decide)
      have HH := Lib.hid hown
      clear hown hst hrow
      go_wp2_with fail
      refine (Field_any hx (by omega) (by omega) (by omega) (by omega) _).mono ?_
      rintro e w' ⟨rfl, rfl⟩
      rw [F8.out]
      generalize x / 256 ^ k % 256 = byte at *
      go_wp2
      go_roundw
      case rel => exact ⟨k + 1, by omega, by go_num, HST.out, hbr.setCell (Nat.le_refl _) _⟩
      case measure => simp [intOf]; omega
    · obtain rfl : k = m := by omega
      have hrow : rowL k (fun j => if k - 1 - j < k then x / 256 ^ (k - 1 - j) % 256 else 0) = u8s (bigL x k) := by
        rw [← rowL_big]
        exact rowL_congr fun j hj => by rw [if_pos (by omega)]
      rw [hrow] at hown
      have HO := Lib.hid hown
      clear hown hrow
      go_wp2
      go_ret2
      exact ⟨_, rfl, HO.out, hbr⟩
end Go.Proofs.YtcifnfffoiiceaaDoor
