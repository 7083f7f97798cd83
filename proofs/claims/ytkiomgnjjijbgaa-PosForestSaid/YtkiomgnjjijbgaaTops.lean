/-
  The reference's Tops: the spots of the peaks.
-/
import Derived.Test.YtkiomgnjjijbgaaWay
namespace Go.Proofs.Ytkiomgnjjijbgaa
open Go.RowKit
set_option linter.unusedVariables false

theorem info_spot : (Try.prog.info? 24).map (fun i => (i.zero, i.size, i.bytes)) = some (some (.agg #[.int .u8 0, .int .u64 0]), 2, 16) := by kernel_rfl
/-- A list of spots as cells. -/
def spotC : List (Nat × Nat) → List Value
  | [] => []
  | s :: l => .int .u8 (s.1 : Int) :: .int .u64 (s.2 : Int) :: spotC l
theorem spotC_append (l m : List (Nat × Nat)) : spotC (l ++ m) = spotC l ++ spotC m := by
  induction l with
  | nil => rfl
  | cons s l ih => show _ :: _ :: spotC (l ++ m) = _ :: _ :: (spotC l ++ spotC m); rw [ih]
theorem spotC_len (l : List (Nat × Nat)) : (spotC l).length = l.length * 2 := by
  induction l with
  | nil => rfl
  | cons s l ih => show (spotC l).length + 1 + 1 = (l.length + 1) * 2; omega
theorem spotC_get (l : List (Nat × Nat)) : ∀ (j : Nat) (s : Nat × Nat), l[j]? = some s → (spotC l)[2 * j]? = some (.int .u8 (s.1 : Int)) ∧ (spotC l)[2 * j + 1]? = some (.int .u64 (s.2 : Int)) := by
  induction l with
  | nil => intro j s h; simp at h
  | cons a l ih =>
    intro j s h
    cases j with
    | zero =>
      simp only [List.getElem?_cons_zero, Option.some.injEq] at h
      subst h
      exact ⟨rfl, rfl⟩
    | succ j =>
      simp only [List.getElem?_cons_succ] at h
      obtain ⟨h1, h2⟩ := ih j s h
      rw [show 2 * (j + 1) = 2 * j + 1 + 1 by omega, show 2 * j + 1 + 1 + 1 = (2 * j + 1) + 1 + 1 by omega]
      exact ⟨h1, h2⟩
theorem cell_new2 (w : World) (u v : Value) (t : TypeId) : ∀ (j : Nat) x, [u, v][j]? = some x → (w.alloc (.cells #[u, v] t (0, 0))).cell? ((⟨w.heap.size, 0, none⟩ : Addr).add j) = some x := by
  intro j x h
  have e : (⟨w.heap.size, 0, none⟩ : Addr).add j = ⟨w.heap.size, j, none⟩ := by unfold Addr.add; split <;> simp_all
  rw [e, cell_of_row _ _ _ _ _ _ (heap_alloc_new w _)]
  match j, h with
  | 0, h => exact h
  | 1, h => exact h
  | j + 2, h => simp at h
theorem two_ints (k k' : IntKind) (n m : Int) : ∀ u ∈ [Value.int k n, Value.int k' m], u.oneCell' = true := by
  intro u hu
  simp only [List.mem_cons, List.not_mem_nil, or_false] at hu
  rcases hu with rfl | rfl <;> rfl

/-- The spots of the peaks of n leaves. -/
def topsL (n : Nat) : List (Nat × Nat) := (highF 63 n).map fun d => (d, n / 2 ^ d - 1)
theorem topsL_len {n : Nat} (hn : n ≤ 4611686018427387904) : (topsL n).length = ones n := by
  unfold topsL
  rw [List.length_map]
  exact high_ones 63 n (by omega) (by omega)
def TopRel (n base : Nat) (w : World) (v a h : Value) (wr : World) : Prop :=
  ∃ (c : Nat) (pre : List Nat), c ≤ 63 ∧ h = .int .i64 ((c : Int) - 1) ∧ a = .int .u64 ((n / 2 ^ c * 2 ^ c : Nat) : Int) ∧ pre ++ highF c n = highF 63 n ∧ pre.length + c ≤ 63 ∧
    wr.ownsRow base 24 2 v pre.length (spotC (pre.map fun d => (d, n / 2 ^ d - 1))) ∧ Below base w wr
theorem high_succ (c n : Nat) : highF (c + 1) n = if n / 2 ^ c % 2 = 1 then c :: highF c n else highF c n := rfl
theorem Tops_no {n : Nat} (h : 4611686018427387904 < n) (w : World) :
    Calls Try.prog 51 #[.int .u64 n] w fun e w' => e = .returned (.slice none 0 0) ∧ w = w' := by
  have i0 : (4611686018427387904 : Int) < (n : Int) := by omega
  go_enter Try.func51, Try.ntmps51
  go_wp2
  go_ret
  exact ⟨rfl, rfl⟩
theorem tops_part (n d : Nat) : ∃ a p q r, n / 2 ^ (d + 1) * 2 ^ (d + 1) = a ∧ 2 ^ d = p ∧ 0 < p ∧ n / 2 ^ d = q ∧ a = q / 2 * 2 * p ∧ n = q * p + r ∧ r < p ∧ n / 2 ^ d * 2 ^ d = q * p ∧
    (q % 2 = 1 → a + p ≤ n ∧ a + p = q * p ∧ a / p = q - 1 ∧ p ≤ n - a) ∧ (q % 2 ≠ 1 → a ≤ n ∧ a = q * p ∧ n - a < p) := by
  have hp := Nat.two_pow_pos d
  have h1 := half_up n d
  have h2 := Nat.div_add_mod n (2 ^ d)
  have h3 := Nat.mod_lt n hp
  rw [Nat.mul_comm] at h2
  refine ⟨_, 2 ^ d, n / 2 ^ d, n % 2 ^ d, rfl, rfl, hp, rfl, h1, h2.symm, h3, rfl, ?_, ?_⟩
  · intro hb
    have e : n / 2 ^ d / 2 * 2 + 1 = n / 2 ^ d := by omega
    have e2 : n / 2 ^ d * 2 ^ d = n / 2 ^ d / 2 * 2 * 2 ^ d + 2 ^ d := by
      conv => lhs; rw [← e]
      rw [Nat.add_mul, Nat.one_mul]
    rw [h1]
    refine ⟨by omega, by omega, ?_, by omega⟩
    rw [Nat.mul_div_cancel _ hp]
    omega
  · intro hb
    have e : n / 2 ^ d / 2 * 2 = n / 2 ^ d := by omega
    rw [h1, e]
    exact ⟨by omega, rfl, by omega⟩
theorem Tops_yes {n : Nat} (hn : n ≤ 4611686018427387904) (w : World) :
    Calls Try.prog 51 #[.int .u64 n] w fun e w' => ∃ v, e = .returned v ∧ w'.ownsRow w.heap.size 24 2 v (topsL n).length (spotC (topsL n)) ∧ Below w.heap.size w w' := by
  obtain ⟨i0, hi, hz0, hz1, hz2⟩ := info_parts info_spot
  generalize hB : w.heap.size = B
  have HB := Lib.hid hB
  clear hB
  have hn2 : (n : Int) ≤ 4611686018427387904 := by omega
  go_enter Try.func51, Try.ntmps51
  go_wp2
  go_loopw [3, 4, 5] (fun v a h wr => TopRel n B w v a h wr) (fun _ _ h _ => (intOf h + 1).toNat)
  case atStart => exact ⟨63, [], by omega, rfl, by rw [Nat.div_eq_of_lt (by omega)]; simp, rfl, by simp, World.ownsRow_nil _ _ _ _, Below.refl _ _⟩
  case round =>
    obtain ⟨c, pre, hc, rfl, rfl, hpre, hlen, hown, hbel⟩ := hrel
    have hBw : B ≤ wr.heap.size := by rw [← HB.out]; exact hbel.size
    by_cases hlt : 0 < c
    · obtain ⟨d, rfl⟩ : ∃ d, c = d + 1 := ⟨c - 1, by omega⟩
      have ed : ((d + 1 : Nat) : Int) - 1 = (d : Int) := by omega
      rw [ed]
      clear ed
      have hd : d ≤ 62 := by omega
      have id : (d : Int) ≤ 62 := by omega
      have P := power_any (h := d) (by omega)
      rw [high_succ] at hpre
      obtain ⟨a, p, q, r, ea, ep, p0, eq, aq, nq, rp, enext, yes, no⟩ := tops_part n d
      have EN := Lib.hid enext
      have EQ := Lib.hid eq
      rw [ea]
      rw [ep] at P
      rw [eq] at hpre
      clear ea ep eq enext
      by_cases hb : q % 2 = 1
      · rw [if_pos hb] at hpre
        obtain ⟨y1, y2, y3, y4⟩ := yes hb
        have PR := Lib.hid hpre
        have Y2 := Lib.hid y2
        have u1 : IntKind.u64.wrap ((n : Int) - (a : Int)) = ((n - a : Nat) : Int) := by rw [wrap_u64]; omega
        have dv : (a : Int) / (p : Int) = ((q - 1 : Nat) : Int) := by rw [← y3]; exact (Int.natCast_ediv a p).symm
        have c1 : (p : Int) ≤ ((n - a : Nat) : Int) := by omega
        have ai : (a : Int) + (p : Int) ≤ 4611686018427387904 := by omega
        have pne : ((p : Int) == 0) = false := by rw [beq_eq_false_iff_ne]; omega
        have pi0 : (0 : Int) < (p : Int) := by omega
        obtain ⟨k, hk⟩ : ∃ k, q - 1 = k := ⟨_, rfl⟩
        have ki : (k : Int) ≤ 4611686018427387904 := by
          have := Nat.le_mul_of_pos_right q p0
          omega
        rw [hk] at dv
        generalize hu : n - a = u at *
        have KK := Lib.hid hk
        clear hpre yes no y2 y3 aq nq rp hk hb hu y4
        go_wp2_with fail
        refine (P _).mono ?_
        rintro e w' ⟨rfl, rfl⟩
        go_wp2_with fail
        refine (P _).mono ?_
        rintro e w' ⟨rfl, rfl⟩
        go_wp2_with (at_builtin; refine wpList_append_own _ rfl _ _ 45 rfl B 24 i0 (.agg #[.int .u8 0, .int .u64 0]) 2 16 Try.underlying45 hi hz0 hz1 hz2 rfl (by decide) _ _ _ rfl (hown.alloc _) ⟨wr.heap.size, 0, none⟩ 1 1 [.int .u8 (d : Int), .int .u64 (k : Int)] rfl rfl (cell_new2 _ _ _ _) (two_ints _ _ _ _) (by unfold maxLen; omega) (by omega) (by simp; omega) ?_; intro v' w2 hown2 hg2 _)
        refine (P _).mono ?_
        rintro e w' ⟨rfl, rfl⟩
        go_wp2
        go_roundw
        case rel =>
          refine ⟨d, pre ++ [d], by omega, rfl, ?_, ?_, ?_, ?_, ?_⟩
          · rw [EN.out, ← Y2.out]; go_num
          · rw [← PR.out]; simp
          · simp only [List.length_append, List.length_singleton]; omega
          · rw [List.map_append, spotC_append, List.length_append]
            show w2.ownsRow _ _ _ _ _ (_ ++ [.int .u8 (d : Int), .int .u64 ((n / 2 ^ d - 1 : Nat) : Int)])
            rw [EQ.out, KK.out]
            exact hown2
          · exact (hbel.alloc hBw _).grown hg2 (by simp; omega) fun k hk => (hown.lt k hk).1
        case measure => simp [intOf]
      · rw [if_neg hb] at hpre
        obtain ⟨y1, y2, y3⟩ := no hb
        have PR := Lib.hid hpre
        have Y2 := Lib.hid y2
        have u1 : IntKind.u64.wrap ((n : Int) - (a : Int)) = ((n - a : Nat) : Int) := by rw [wrap_u64]; omega
        have c1 : decide ((p : Int) ≤ ((n - a : Nat) : Int)) = false := decide_eq_false (by omega)
        have c2 : decide (p ≤ n - a) = false := decide_eq_false (by omega)
        have c3 : n - a < p := y3
        have ai : (a : Int) ≤ (n : Int) := by omega
        generalize hu : n - a = u at *
        clear hpre yes no y2 aq nq rp hb hu
        go_wp2_with fail
        refine (P _).mono ?_
        rintro e w' ⟨rfl, rfl⟩
        go_wp2
        go_roundw
        case rel => exact ⟨d, pre, by omega, rfl, by rw [EN.out, ← Y2.out], PR.out, by omega, hown, hbel⟩
        case measure => simp [intOf]
    · obtain rfl : c = 0 := by omega
      have e0 : ((0 : Nat) : Int) - 1 = -1 := by decide
      rw [e0]
      have e : topsL n = pre.map fun d => (d, n / 2 ^ d - 1) := by
        unfold topsL
        rw [← hpre]
        simp [highF]
      have E := Lib.hid e
      clear e0 hpre e
      go_wp2
      go_ret
      refine ⟨_, rfl, ?_, hbel⟩
      rw [E.out, List.length_map]
      exact hown
end Go.Proofs.Ytkiomgnjjijbgaa
