/-
  PosWays: the way up from a leaf, sibling by sibling, comes to the peak over it.
-/
import Derived.Test.YtkiomgnjjijbgaaPath
import Derived.Test.YtkiomgnjjijbgaaBack
import Derived.Test.YtkiomgnjjijbgaaAwake3
namespace Go.Proofs.Ytkiomgnjjijbgaa
open Go.RowKit
set_option linter.unusedVariables false

theorem ways_no {i n : Nat} (hn : 4611686018427387904 < n) (w : World) :
    Calls Try.prog 12 #[.int .u64 i, .int .u64 n] w fun e w' => e = .returned (.bool true) ∧ Below w.heap.size w w' := by
  have i0 : (4611686018427387904 : Int) < (n : Int) := by omega
  have P := Path_no (i := i) (n := n) (by omega)
  have K := Peak_no (i := i) (n := n) (by omega)
  have L := Peaks_no hn
  clear hn
  go_enter Try.func12, Try.ntmps12
  go_wp2_with fail
  refine (P _).mono ?_
  rintro e w' ⟨rfl, rfl⟩
  go_wp2_with fail
  refine (K _).mono ?_
  rintro e w' ⟨rfl, rfl⟩
  go_wp2_with fail
  refine (L _).mono ?_
  rintro e w' ⟨rfl, rfl⟩
  go_wp2_with fail
  refine (awake3_any _).mono ?_
  rintro e w1 ⟨rfl, q1⟩
  go_wp2
  go_ret
  exact ⟨rfl, q1⟩
theorem ways_out {i n : Nat} (hn : n ≤ 4611686018427387904) (h : n ≤ i) (w : World) :
    Calls Try.prog 12 #[.int .u64 i, .int .u64 n] w fun e w' => e = .returned (.bool true) ∧ Below w.heap.size w w' := by
  have i0 : (n : Int) ≤ 4611686018427387904 := by omega
  have i1 : (n : Int) ≤ (i : Int) := by omega
  have P := Path_no (i := i) (n := n) (by omega)
  have K := Peak_no (i := i) (n := n) (by omega)
  have L := Peaks_yes hn
  go_enter Try.func12, Try.ntmps12
  go_wp2_with fail
  refine (P _).mono ?_
  rintro e w' ⟨rfl, rfl⟩
  go_wp2_with fail
  refine (K _).mono ?_
  rintro e w' ⟨rfl, rfl⟩
  go_wp2_with fail
  refine (L _).mono ?_
  rintro e w1 ⟨v, rfl, hown, q1⟩
  clear hown
  go_wp2_with fail
  refine (awake3_any _).mono ?_
  rintro e w2 ⟨rfl, q2⟩
  go_wp2
  go_ret
  exact ⟨rfl, q1.trans (q2.mono q1.size)⟩
theorem row_any {w : World} {B : Nat} {t : TypeId} {n : Nat} {v : Value} {xs : List Value} (h : w.ownsRow B t 1 v n xs) : ∃ s cap, v = .slice s n cap ∧ (0 < n → ∃ g, s = some ⟨g, 0, none⟩ ∧ g < w.heap.size ∧ n ≤ cap) := by
  by_cases hn : 0 < n
  · obtain ⟨g, cap, rfl, _, hg, hc⟩ := row_form h hn
    exact ⟨_, _, rfl, fun _ => ⟨g, rfl, hg, hc⟩⟩
  · obtain rfl : n = 0 := by omega
    rcases h.2 with ⟨hv, _⟩ | ⟨g, cap, cur, hv, _⟩
    · exact ⟨_, _, hv, fun h => by omega⟩
    · exact ⟨_, _, hv, fun h => by omega⟩
theorem peak_over {i n : Nat} (h : i < n) (hn : n ≤ 4611686018427387904) :
    (u64s (peaksL n))[ones (n / 2 ^ (overN i n + 1))]? = some (.int .u64 (placeN (overN i n) (i / 2 ^ overN i n) : Int)) ∧ ones (n / 2 ^ (overN i n + 1)) < ones n ∧ (peaksL n).length = ones n := by
  obtain ⟨_, ht, hb, hk⟩ := over_spec h hn
  obtain ⟨pre, h1, h2⟩ := high_at hn ht hb
  have hl := high_ones 63 n (by omega) (by omega)
  rw [← h2, ← hl]
  refine ⟨?_, ?_, ?_⟩
  · rw [u64s_get]
    unfold peaksL
    rw [peaksF_map, List.getElem?_map, h1]
    simp
    rw [← hk, Nat.add_sub_cancel]
  · rw [h1, List.length_append, List.length_cons]; omega
  · unfold peaksL
    rw [peaksF_map, List.length_map]
def WyRel (i t : Nat) (w2 : World) (p c : Value) (wr : World) : Prop :=
  ∃ x : Nat, x ≤ t ∧ c = .int .i64 (x : Int) ∧ p = .int .u64 (placeN x (i / 2 ^ x) : Nat) ∧ Below w2.heap.size w2 wr
set_option maxRecDepth 20000 in
theorem ways_in {i n : Nat} (h : i < n) (hn : n ≤ 4611686018427387904) (w : World) :
    Calls Try.prog 12 #[.int .u64 i, .int .u64 n] w fun e w' => e = .returned (.bool true) ∧ Below w.heap.size w w' := by
  have P := Path_yes h hn
  have K := Peak_yes h hn
  have L := Peaks_yes hn
  have i62 : i < 4611686018427387904 := by omega
  have LF := Leaf_yes i62
  rw [leaf_place i62] at LF
  have HI := Lib.hid i62
  obtain ⟨_, ht, hb, hk⟩ := over_spec h hn
  obtain ⟨pk, pl, plen⟩ := peak_over h hn
  have i0 : (n : Int) ≤ 4611686018427387904 := by omega
  have i1 : (i : Int) < (n : Int) := by omega
  have on64 := ones_le64 n
  clear hb hk i62
  generalize overN i n = t at *
  generalize ones (n / 2 ^ (t + 1)) = k at *
  have i2 : (k : Int) < (ones n : Int) := by omega
  have rt := way_right HI.out ht
  have UT := UN_yes rt
  obtain ⟨u1, u2⟩ := way_under (i := i) (t := t)
  generalize hf : i / 2 ^ t * 2 ^ t = f at *
  generalize hto : (i / 2 ^ t + 1) * 2 ^ t = to at *
  generalize hT : placeN t (i / 2 ^ t) = T at *
  have HT := Lib.hid hT
  have u1i : (f : Int) ≤ (i : Int) := by omega
  have u2i : (i : Int) < (to : Int) := by omega
  clear hT hf hto
  go_enter Try.func12, Try.ntmps12
  go_wp2_with fail
  refine (P _).mono ?_
  rintro e w1 ⟨v1, rfl, hown1, q1⟩
  obtain ⟨s1, cap1, rfl, hs1⟩ := row_any hown1
  have HS1 := Lib.hid hs1
  have C1 := Lib.hid (show ∀ g x u, s1 = some ⟨g, 0, none⟩ → (u64s (wayF i t))[x]? = some u → w1.cell? ⟨g, x, none⟩ = some u by
    rintro g x u rfl hx
    exact row_cellAt hown1 hx)
  clear hs1 hown1
  go_wp2_with fail
  refine (K _).mono ?_
  rintro e w' ⟨rfl, rfl⟩
  go_wp2_with fail
  refine (L _).mono ?_
  rintro e w2 ⟨v2, rfl, hown2, q2⟩
  rw [plen] at hown2
  obtain ⟨g2, cap2, rfl, _, hg2, hcap2⟩ := row_form hown2 (by omega)
  have cell2 := row_cellAt hown2 pk
  have bel2 := q1.trans (q2.mono q1.size)
  clear hown2 q1
  go_wp2_with fail
  refine (LF _).mono ?_
  rintro e w' ⟨rfl, rfl⟩
  go_wp2
  go_loopw [10, 12] (fun p c wr => WyRel i t w2 p c wr) (fun _ c _ => t - (intOf c).toNat)
  case atStart => exact ⟨0, by omega, rfl, by simp, Below.refl _ _⟩
  case round =>
    obtain ⟨x, hx, rfl, rfl, bel⟩ := hrel
    have c2 : wr.cell? ⟨g2, k, none⟩ = some (.int .u64 (T : Int)) := by rw [← cell2]; exact bel.cell (p := ⟨g2, k, none⟩) hg2
    by_cases hlt : x < t
    · obtain ⟨g1, rfl, hg1, hcap1⟩ := HS1.out (by omega)
      have cell1 := C1.out g1 x _ rfl (by rw [u64s_get, wayF_get hlt]; rfl)
      have rx := way_right HI.out (x := x) (by omega)
      have SX := SA_yes rx (by omega)
      have PX := PA_yes rx (by omega)
      rw [way_up] at PX
      have ne : placeN x (i / 2 ^ x) ≠ T := by
        intro e
        have := (place_inj rx rt (e.trans HT.out.symm)).1
        omega
      have c1 : wr.cell? ⟨g1, x, none⟩ = some (.int .u64 (placeN x (sibN (i / 2 ^ x)) : Int)) := by
        rw [bel.cell (p := ⟨g1, x, none⟩) (Nat.lt_of_lt_of_le hg1 q2.size), q2.cell (p := ⟨g1, x, none⟩) hg1]
        exact cell1
      generalize placeN x (sibN (i / 2 ^ x)) = q at *
      generalize placeN x (i / 2 ^ x) = p at *
      generalize hu : placeN (x + 1) (i / 2 ^ (x + 1)) = u at *
      have HU := Lib.hid hu
      clear hu cell1
      have nei : ¬ ((p : Int) = (T : Int)) := by omega
      have xi : (x : Int) < (t : Int) := by omega
      have gr1 : g1 < wr.heap.size := Nat.lt_of_lt_of_le (Nat.lt_of_lt_of_le hg1 q2.size) bel.size
      have gr2 : g2 < wr.heap.size := Nat.lt_of_lt_of_le hg2 bel.size
      go_wp2_with fail
      refine (SX _).mono ?_
      rintro e w3 ⟨rfl, q3⟩
      go_wp2_with fail
      refine (PX _).mono ?_
      rintro e w4 ⟨rfl, q4⟩
      have bel4 : Below wr.heap.size wr w4 := q3.trans (q4.mono q3.size)
      have c14 : w4.cell? ⟨g1, x, none⟩ = some (.int .u64 (q : Int)) := by rw [← c1]; exact bel4.cell (p := ⟨g1, x, none⟩) gr1
      have c24 : w4.cell? ⟨g2, k, none⟩ = some (.int .u64 (T : Int)) := by rw [← c2]; exact bel4.cell (p := ⟨g2, k, none⟩) gr2
      have g14 : g1 < w4.heap.size := Nat.lt_of_lt_of_le gr1 bel4.size
      have g24 : g2 < w4.heap.size := Nat.lt_of_lt_of_le gr2 bel4.size
      clear c1 c2 cell2 gr1 gr2 hg1 hg2 q3 q4
      go_wp2
      go_roundw
      case rel => exact ⟨x + 1, by omega, by go_num, by rw [HU.out], bel.trans (bel4.mono bel.size)⟩
      case measure => simp [intOf]; omega
    · obtain rfl : x = t := by omega
      rw [HT.out]
      have gr2 : g2 < wr.heap.size := Nat.lt_of_lt_of_le hg2 bel.size
      clear cell2
      go_wp2_with fail
      refine (UT _).mono ?_
      rintro e w3 ⟨rfl, q3⟩
      have c23 : w3.cell? ⟨g2, k, none⟩ = some (.int .u64 (T : Int)) := by rw [← c2]; exact q3.cell (p := ⟨g2, k, none⟩) gr2
      have g23 : g2 < w3.heap.size := Nat.lt_of_lt_of_le gr2 q3.size
      have r3 := bel2.trans ((bel.trans (q3.mono bel.size)).mono bel2.size)
      clear c2 gr2 hg2
      go_wp2_with fail
      refine (awake3_any _).mono ?_
      rintro e w4 ⟨rfl, q4⟩
      go_wp2
      go_ret
      exact ⟨rfl, r3.trans (q4.mono r3.size)⟩
theorem walkPosWays (a0 a1 : Int) (w0 : (Lit.int .u64 a0).wf = true) (w1 : (Lit.int .u64 a1).wf = true) (w : World) :
    Calls Try.prog 12 #[.int .u64 a0, .int .u64 a1] w fun e w' => e = .returned (.bool true) ∧ Below w.heap.size w w' := by
  obtain ⟨i, rfl, hi⟩ := nat_of_u64 w0
  obtain ⟨n, rfl, hn⟩ := nat_of_u64 w1
  by_cases h : n ≤ 4611686018427387904
  · by_cases h0 : i < n
    · exact ways_in h0 h w
    · exact ways_out h (by omega) w
  · exact ways_no (by omega) w
end Go.Proofs.Ytkiomgnjjijbgaa
