/-
  The reference's Peaks and Peak.
-/
import Derived.Test.YtkiomgnjjijbgaaTops
import Derived.Deep.QuietTactic
import Derived.BigQuiet
namespace Go.Proofs.Ytkiomgnjjijbgaa
open Go.RowKit
set_option linter.unusedVariables false

theorem own_mono {w : World} {B B' : Nat} {t : TypeId} {s n : Nat} {v : Value} {xs : List Value} (h : w.ownsRow B t s v n xs) (hb : B' ≤ B) : w.ownsRow B' t s v n xs := by
  refine ⟨h.1, h.2.imp id ?_⟩
  rintro ⟨g, cap, cur, hv, hg, rest⟩
  exact ⟨g, cap, cur, hv, Nat.le_trans hb hg, rest⟩
theorem own_zero {w : World} {B : Nat} {t : TypeId} {s n : Nat} {v : Value} {xs : List Value} (h : w.ownsRow B t s v n xs) (hn : n = 0) : ∃ a cap, v = .slice a n cap := by
  rcases h.2 with ⟨hv, h0⟩ | ⟨g, cap, cur, hv, _⟩
  · subst hn; exact ⟨_, _, hv⟩
  · exact ⟨_, _, hv⟩
theorem own_shape {w : World} {B : Nat} {t : TypeId} {s n : Nat} {v : Value} {xs : List Value} (h : w.ownsRow B t s v n xs) :
    ∃ a cap, v = .slice a n cap ∧ (0 < n → ∃ g, a = some ⟨g, 0, none⟩ ∧ B ≤ g ∧ g < w.heap.size ∧ n ≤ cap ∧ ∀ (j : Nat) (u : Value), xs[j]? = some u → w.cell? ⟨g, j, none⟩ = some u) := by
  by_cases hn : 0 < n
  · rcases h.2 with ⟨_, h0⟩ | ⟨g, cap, cur, rfl, hg, hh, hc, _⟩
    · omega
    · refine ⟨_, _, rfl, fun _ => ⟨g, rfl, hg, lt_of_heap hh, hc, fun j u hj => ?_⟩⟩
      have := h.cells (g := g) rfl j u hj
      rwa [show (⟨g, 0, none⟩ : Addr).add j = ⟨g, j, none⟩ by unfold Addr.add; split <;> simp_all] at this
  · obtain ⟨a, cap, e⟩ := own_zero h (by omega)
    exact ⟨a, cap, e, fun h => by omega⟩
theorem topsL_get {n k d : Nat} (h : (highF 63 n)[k]? = some d) : (spotC (topsL n))[k * 2]? = some (.int .u8 (d : Int)) ∧ (spotC (topsL n))[k * 2 + 1]? = some (.int .u64 ((n / 2 ^ d - 1 : Nat) : Int)) :=
  by rw [Nat.mul_comm k 2]; exact spotC_get (topsL n) k (d, n / 2 ^ d - 1) (by unfold topsL; rw [List.getElem?_map, h]; rfl)
def RpRel (n : Nat) (w1 : World) (v i : Value) (wr : World) : Prop :=
  ∃ k : Nat, k ≤ ones n ∧ i = .int .i64 (k : Int) ∧ wr.ownsRow w1.heap.size 22 1 v k (u64s ((peaksL n).take k)) ∧ Below w1.heap.size w1 wr
theorem refPeaks_no {n : Nat} (h : 4611686018427387904 < n) (w : World) :
    Calls Try.prog 39 #[.int .u64 n] w fun e w' => e = .returned (.slice none 0 0) ∧ w = w' := by
  have T := Tops_no h
  clear h
  go_enter Try.func39, Try.ntmps39
  go_wp2_with fail
  refine (T _).mono ?_
  rintro e w' ⟨rfl, rfl⟩
  go_wp2
  go_loop [3, 5] (fun v i => v = .slice none 0 0 ∧ i = .int .i64 0) (fun _ _ => 0)
  case atStart => exact ⟨rfl, rfl⟩
  case round =>
    obtain ⟨rfl, rfl⟩ := hrel
    go_wp2
    go_ret
    exact ⟨rfl, rfl⟩
theorem peaks_len {n : Nat} (hn : n ≤ 4611686018427387904) : (peaksL n).length = ones n := by
  unfold peaksL
  rw [peaksF_map, List.length_map]
  exact high_ones 63 n (by omega) (by omega)
theorem refPeaks_yes {n : Nat} (hn : n ≤ 4611686018427387904) (w : World) :
    Calls Try.prog 39 #[.int .u64 n] w fun e w' => ∃ v, e = .returned v ∧ w'.ownsRow w.heap.size 22 1 v (peaksL n).length (u64s (peaksL n)) ∧ Below w.heap.size w w' := by
  obtain ⟨i0, hi, hz0, hz1, hz2⟩ := info_parts info_u64
  have T := Tops_yes hn
  rw [topsL_len hn] at T
  have hle := ones_le64 n
  have hlen := peaks_len hn
  have hhl := high_ones 63 n (by omega) (by omega)
  rw [hlen]
  go_enter Try.func39, Try.ntmps39
  go_wp2_with fail
  refine (T _).mono ?_
  rintro e w1 ⟨v, rfl, hown, q1⟩
  obtain ⟨a, cap, rfl, hs⟩ := own_shape hown
  have HS := Lib.hid hs
  clear hs hown T
  go_wp2
  go_loopw [3, 5] (fun v i wr => RpRel n w1 v i wr) (fun _ i _ => ones n - (intOf i).toNat)
  case atStart => exact ⟨0, by omega, rfl, World.ownsRow_nil _ _ _ _, Below.refl _ _⟩
  case round =>
    obtain ⟨k, hk, rfl, hout, bel⟩ := hrel
    by_cases hlt : k < ones n
    · obtain ⟨g, rfl, _, hg, hc, cells⟩ := HS.out (by omega)
      obtain ⟨d, hd⟩ : ∃ d, (highF 63 n)[k]? = some d := ⟨_, List.getElem?_eq_getElem (by omega)⟩
      obtain ⟨t1, t2⟩ := topsL_get hd
      have c1 := bel.cell (p := ⟨g, k * 2, none⟩) hg
      rw [cells _ _ t1] at c1
      have c2 := bel.cell (p := ⟨g, k * 2 + 1, none⟩) hg
      rw [cells _ _ t2] at c2
      have hm := List.mem_of_getElem? hd
      have r := peak_right hn (by have := highF_lt d hm; omega) (highF_bit d hm)
      have PL := refPlace_yes r
      have gr : g < wr.heap.size := Nat.lt_of_lt_of_le hg bel.size
      have pk : (peaksL n)[k]? = some (placeN d (n / 2 ^ d - 1)) := by
        unfold peaksL
        rw [peaksF_map, List.getElem?_map, hd]
        rfl
      have PK := Lib.hid pk
      have ki : (k : Int) < (ones n : Int) := by omega
      have k64 : (k : Int) ≤ 64 := by omega
      have d62 : d ≤ 62 := r.1
      generalize placeN d (n / 2 ^ d - 1) = p at *
      generalize n / 2 ^ d - 1 = y at *
      clear hd t1 t2 hm pk r cells
      go_wp2_with fail
      refine (PL _).mono ?_
      rintro e w2 ⟨rfl, q2⟩
      have out2 := own_below hout q2
      have bel2 := bel.trans (q2.mono bel.size)
      clear hout q2
      go_wp2_with (at_builtin; refine wpList_append_own _ rfl _ _ 36 rfl w1.heap.size 22 i0 (.int .u64 0) 1 8 Try.underlying36 hi hz0 hz1 hz2 rfl (by decide) _ _ _ rfl (out2.alloc _) ⟨w2.heap.size, 0, none⟩ 1 1 [.int .u64 (p : Int)] rfl rfl (new_cell _ _ _) (one_cell _ _) (by unfold maxLen; omega) (by omega) (by have := bel2.size; simp; omega) ?_; intro v' w3 out3 hg3 _)
      go_roundw
      case rel =>
        refine ⟨k + 1, by omega, by go_num, ?_, (bel2.alloc bel2.size _).grown hg3 (by have := bel2.size; simp; omega) fun j hj => (out2.lt j hj).1⟩
        rw [List.take_add_one, PK.out]
        simpa [u64s] using out3
      case measure => simp [intOf]; omega
    · obtain rfl : k = ones n := by omega
      go_wp2
      go_ret
      refine ⟨_, rfl, ?_, q1.trans (bel.mono q1.size)⟩
      rw [List.take_of_length_le (by omega)] at hout
      exact own_mono hout q1.size

/-! ### Peak -/
theorem high_sorted : ∀ (pre : List Nat) (c n t : Nat) (suf : List Nat), highF c n = pre ++ t :: suf → ∀ x ∈ pre, t < x
  | [], _, _, _, _, _ => fun x h => by cases h
  | y :: pre, c, n, t, suf, e => by
    obtain ⟨_, h2⟩ := cover_head (h := y) (l := pre ++ t :: suf) e
    intro x hx
    rcases List.mem_cons.1 hx with rfl | hx
    · exact highF_lt t (by rw [h2]; simp)
    · exact high_sorted pre y n t suf h2 x hx
/-- Above the peak over leaf i the leaf lies beside what a peak lies over. -/
theorem over_above {i n h : Nat} (hi : i < n) (hn : n ≤ 4611686018427387904) (hh : overN i n < h) (hb : n / 2 ^ h % 2 = 1) : i / 2 ^ h ≠ n / 2 ^ h - 1 := by
  obtain ⟨_, _, h1, h2⟩ := over_spec hi hn
  have e : i / 2 ^ (overN i n + 1) = n / 2 ^ (overN i n + 1) := by
    rw [Nat.pow_succ, ← Nat.div_div_eq_div_mul, ← Nat.div_div_eq_div_mul]; omega
  obtain ⟨d, hd⟩ : ∃ d, h = overN i n + 1 + d := ⟨h - (overN i n + 1), by omega⟩
  have e2 : i / 2 ^ h = n / 2 ^ h := by
    rw [hd, Nat.pow_add, ← Nat.div_div_eq_div_mul, ← Nat.div_div_eq_div_mul, e]
  omega
theorem refPeak_out {i n : Nat} (h : n ≤ i) (w : World) :
    Calls Try.prog 43 #[.int .u64 i, .int .u64 n] w fun e w' => e = .returned (.tuple #[.int .i64 0, .bool false]) ∧ Below w.heap.size w w' := by
  have i1 : (n : Int) ≤ (i : Int) := by omega
  go_enter Try.func43, Try.ntmps43
  go_wp2
  go_ret2
  exact ⟨rfl, Below.refl _ _⟩
theorem refPeak_no {i n : Nat} (h : i < n) (hn : 4611686018427387904 < n) (w : World) :
    Calls Try.prog 43 #[.int .u64 i, .int .u64 n] w fun e w' => e = .returned (.tuple #[.int .i64 0, .bool false]) ∧ Below w.heap.size w w' := by
  have T := Tops_no hn
  have i1 : decide ((n : Int) ≤ (i : Int)) = false := decide_eq_false (by omega)
  have i2 : i < n := h
  clear hn h
  go_enter Try.func43, Try.ntmps43
  go_wp2_with fail
  refine (T _).mono ?_
  rintro e w' ⟨rfl, rfl⟩
  go_wp2
  go_loop [7] (fun k => k = .int .i64 0) (fun _ => 0)
  case atStart => rfl
  case round =>
    obtain rfl := hrel
    go_wp2
    go_ret2
    exact ⟨rfl, Below.refl _ _⟩
theorem refPeak_yes {i n : Nat} (h : i < n) (hn : n ≤ 4611686018427387904) (w : World) :
    Calls Try.prog 43 #[.int .u64 i, .int .u64 n] w fun e w' => e = .returned (.tuple #[.int .i64 (ones (n / 2 ^ (overN i n + 1)) : Nat), .bool true]) ∧ Below w.heap.size w w' := by
  have T := Tops_yes hn
  rw [topsL_len hn] at T
  have hle := ones_le64 n
  have hhl := high_ones 63 n (by omega) (by omega)
  obtain ⟨_, ht, hb, hk⟩ := over_spec h hn
  obtain ⟨pre, h1, h2⟩ := high_at hn ht hb
  have AB := Lib.hid (fun d => over_above h hn (h := d))
  have HI := Lib.hid h
  have i1 : decide ((n : Int) ≤ (i : Int)) = false := decide_eq_false (by omega)
  have i2 : i < n := h
  have i62 : (i : Int) ≤ 4611686018427387903 := by omega
  have H1 := Lib.hid h1
  have HB := Lib.hid hb
  have HK := Lib.hid hk
  generalize hkk : ones (n / 2 ^ (overN i n + 1)) = kk at *
  generalize overN i n = t at *
  have kn : kk < ones n := by rw [← h2, ← hhl, h1, List.length_append, List.length_cons]; omega
  clear h hb hk hkk h1
  go_enter Try.func43, Try.ntmps43
  go_wp2_with fail
  refine (T _).mono ?_
  rintro e w1 ⟨v, rfl, hown, q1⟩
  obtain ⟨a, cap, rfl, hs⟩ := own_shape hown
  obtain ⟨g, rfl, _, hg, hc, cells⟩ := hs (by omega)
  have CE := Lib.hid cells
  clear hs hown T cells
  go_wp2
  go_loopw [7] (fun k wr => ∃ j : Nat, j ≤ kk ∧ k = .int .i64 (j : Int) ∧ Below w1.heap.size w1 wr) (fun k _ => kk - (intOf k).toNat)
  case atStart => exact ⟨0, by omega, rfl, Below.refl _ _⟩
  case round =>
    obtain ⟨j, hj, rfl, bel⟩ := hrel
    obtain ⟨d, hd⟩ : ∃ d, (highF 63 n)[j]? = some d := ⟨_, List.getElem?_eq_getElem (by omega)⟩
    obtain ⟨t1, t2⟩ := topsL_get hd
    have c1 := bel.cell (p := ⟨g, j * 2, none⟩) hg
    rw [CE.out _ _ t1] at c1
    have c2 := bel.cell (p := ⟨g, j * 2 + 1, none⟩) hg
    rw [CE.out _ _ t2] at c2
    have hm := List.mem_of_getElem? hd
    have d63 := highF_lt d hm
    have db := highF_bit d hm
    have gr : g < wr.heap.size := Nat.lt_of_lt_of_le hg bel.size
    have PW := power_any (h := d) (by omega)
    have p0 := Nat.two_pow_pos d
    have dv : (i : Int) / ((2 ^ d : Nat) : Int) = ((i / 2 ^ d : Nat) : Int) := (Int.natCast_ediv i (2 ^ d)).symm
    have iq := Nat.div_le_self i (2 ^ d)
    have ji : (j : Int) < (ones n : Int) := by omega
    have di : (d : Int) ≤ 62 := by omega
    have d255 : d ≤ 62 := by omega
    have pz : (((2 ^ d : Nat) : Int) == 0) = false := by rw [beq_eq_false_iff_ne]; omega
    have pz2 : (0 : Int) < ((2 ^ d : Nat) : Int) := by omega
    have bl := bel
    by_cases hjk : j < kk
    · have hx : d ∈ pre := by
        rw [H1.out, List.getElem?_append_left (by omega)] at hd
        exact List.mem_of_getElem? hd
      have hdt := high_sorted pre 63 n t _ H1.out d hx
      have ne := AB.out d hdt db
      have nei : (((i / 2 ^ d : Nat) : Int) == ((n / 2 ^ d - 1 : Nat) : Int)) = false := by rw [beq_eq_false_iff_ne]; omega
      generalize n / 2 ^ d - 1 = y at *
      generalize i / 2 ^ d = x at *
      generalize 2 ^ d = p at *
      have xi : (x : Int) ≤ 4611686018427387903 := by omega
      clear hd t1 t2 hm db hx hdt p0 d63
      go_wp2_with fail
      refine (PW _).mono ?_
      rintro e w' ⟨rfl, rfl⟩
      go_wp2_with fail
      go_quiet (fail)
      go_wp2
      go_roundw
      case rel => exact ⟨j + 1, by omega, by go_num, below_drewN bl nq⟩
      case measure => simp [intOf]; omega
    · obtain rfl : j = kk := by omega
      have hdt : d = t := by
        rw [H1.out, List.getElem?_append_right (by omega), h2, Nat.sub_self] at hd
        exact (Option.some.inj hd).symm
      have eqv : i / 2 ^ d = n / 2 ^ d - 1 := by rw [hdt, ← HK.out, Nat.add_sub_cancel]
      rw [← eqv] at c2
      generalize i / 2 ^ d = x at *
      generalize 2 ^ d = p at *
      have xi : (x : Int) ≤ 4611686018427387903 := by omega
      clear hd t1 t2 hm db hdt p0 d63 eqv
      go_wp2_with fail
      refine (PW _).mono ?_
      rintro e w' ⟨rfl, rfl⟩
      go_wp2_with fail
      go_quiet (fail)
      go_wp2
      go_ret2
      exact ⟨rfl, below_drewN (q1.trans (bl.mono q1.size)) nq⟩
end Go.Proofs.Ytkiomgnjjijbgaa
