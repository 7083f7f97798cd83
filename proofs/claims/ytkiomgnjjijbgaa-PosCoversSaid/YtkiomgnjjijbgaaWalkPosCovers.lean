/-
  PosCovers: too many leaves, none, and some: the peaks and what lies under them.
-/
import Derived.Test.YtkiomgnjjijbgaaCount
import Derived.Test.YtkiomgnjjijbgaaBack
import Derived.Test.YtkiomgnjjijbgaaAwake3
namespace Go.Proofs.Ytkiomgnjjijbgaa
open Go.RowKit
set_option linter.unusedVariables false

theorem covers_no {n : Nat} (hn : 4611686018427387904 < n) (w : World) :
    Calls Try.prog 7 #[.int .u64 n] w fun e w' => e = .returned (.bool true) ∧ Below w.heap.size w w' := by
  have i0 : (4611686018427387904 : Int) < (n : Int) := by omega
  have P := Peaks_no hn
  have N := Nodes_no hn
  clear hn
  go_enter Try.func7, Try.ntmps7
  go_wp2_with fail
  refine (P _).mono ?_
  rintro e w' ⟨rfl, rfl⟩
  go_wp2_with fail
  refine (N _).mono ?_
  rintro e w' ⟨rfl, rfl⟩
  go_wp2_with fail
  refine (awake3_any _).mono ?_
  rintro e w1 ⟨rfl, q1⟩
  go_wp2
  go_ret
  exact ⟨rfl, q1⟩
theorem peak_get {n i : Nat} {pre l : List Nat} {h : Nat} (e : highF 63 n = pre ++ h :: l) (hi : i = pre.length) : (u64s (peaksL n))[i]? = some (.int .u64 (placeN h (n / 2 ^ h - 1) : Int)) := by
  rw [u64s_get]
  unfold peaksL
  rw [peaksF_map, List.getElem?_map, e, hi]
  simp
def CvRel (n : Nat) (w w1 : World) (a i : Value) (wr : World) : Prop :=
  ∃ (c : Nat) (pre suf : List Nat), highF 63 n = pre ++ suf ∧ highF c n = suf ∧ c ≤ 63 ∧ (∀ x, pre.getLast? = some x → x = c) ∧
    a = .int .u64 ((n / 2 ^ c * 2 ^ c : Nat) : Int) ∧ i = .int .i64 pre.length ∧ Below w1.heap.size w1 wr
theorem ones_pos {n : Nat} (h : 0 < n) (hb : n < 9223372036854775808) : 0 < ones n := by
  induction n using Nat.strongRecOn with
  | _ n ih =>
    rcases (show n = 2 * (n / 2) ∨ n = 2 * (n / 2) + 1 by omega) with e | e
    · rw [e, ones_even (by omega)]
      exact ih _ (by omega) (by omega) (by omega)
    · rw [e, ones_odd (by omega)]; omega
set_option maxRecDepth 20000 in
theorem covers_yes {n : Nat} (hpos : 0 < n) (hn : n ≤ 4611686018427387904) (w : World) :
    Calls Try.prog 7 #[.int .u64 n] w fun e w' => e = .returned (.bool true) ∧ Below w.heap.size w w' := by
  have hn0 : 0 < ones n := ones_pos hpos (by omega)
  have P := Peaks_yes hn
  have N := Nodes_yes hn
  have i0 : (n : Int) ≤ 4611686018427387904 := by omega
  obtain ⟨sz, hsz⟩ : ∃ sz, nodeN n = sz := ⟨_, rfl⟩
  have HS := Lib.hid hsz
  rw [hsz] at N
  clear hsz
  go_enter Try.func7, Try.ntmps7
  go_wp2_with fail
  refine (P _).mono ?_
  rintro e w1 ⟨v, rfl, hown, q1⟩
  have hlen : (peaksL n).length = ones n := by
    unfold peaksL
    rw [peaksF_map, List.length_map]
    exact high_ones 63 n (by omega) (by omega)
  rw [hlen] at hown
  obtain ⟨g, cap, rfl, _, hg, hcap⟩ := row_form hown hn0
  have CELL : ∀ j u, (u64s (peaksL n))[j]? = some u → w1.cell? ⟨g, j, none⟩ = some u := fun j u hj => row_cellAt hown hj
  clear hown hlen
  go_wp2_with fail
  refine (N _).mono ?_
  rintro e w' ⟨rfl, rfl⟩
  go_wp2
  go_loop [7, 8] (fun b x => ∃ c m : Nat, b = .int .i64 c ∧ x = .int .u64 m ∧ m ≤ 4611686018427387904 ∧ c + ones m = ones n ∧ c ≤ 64) (fun _ x => (intOf x).toNat)
  case atStart => exact ⟨0, n, rfl, rfl, hn, by omega, by omega⟩
  case round =>
    obtain ⟨c, m, rfl, rfl, hm, hc, hc64⟩ := hrel
    by_cases h0 : 0 < m
    · have e : c + m % 2 + ones (m / 2) = ones n ∧ c + m % 2 ≤ 64 := by
        have l64 := ones_le64 n
        rcases (show m = 2 * (m / 2) ∨ m = 2 * (m / 2) + 1 by omega) with e | e
        · generalize m / 2 = k at *
          subst e
          rw [ones_even (by omega)] at hc; omega
        · generalize m / 2 = k at *
          subst e
          rw [ones_odd (by omega)] at hc; omega
      have H := Lib.hid e
      clear e hc
      go_wp2
      go_round
      case rel => exact ⟨c + m % 2, m / 2, by go_num, by go_num, by omega, H.out.1, H.out.2⟩
      case measure => simp [intOf]; omega
    · obtain rfl : m = 0 := by omega
      rw [ones_zero] at hc
      obtain rfl : c = ones n := by omega
      clear hc
      go_wp2
      go_loopw [6, 9] (fun a i wr => CvRel n w w1 a i wr) (fun _ i _ => 64 - (intOf i).toNat)
      case atStart => exact ⟨63, [], _, rfl, rfl, by omega, (fun x h => by cases h), by rw [Nat.div_eq_of_lt (by omega)]; simp, rfl, Below.refl _ _⟩
      case round =>
        obtain ⟨c, pre, suf, e1, e2, hc, hlast, rfl, rfl, bel⟩ := hrel
        cases suf with
        | nil =>
          rw [List.append_nil] at e1
          have L : pre.length = ones n := by rw [← e1]; exact high_ones 63 n (by omega) (by omega)
          have hat := cover_nil e2
          rcases List.eq_nil_or_concat pre with rfl | ⟨pre', c', epre⟩
          · simp at L; omega
          · rw [List.concat_eq_append] at epre
            subst epre
            obtain rfl : c' = c := hlast c' (by simp)
            have hm : c' ∈ highF 63 n := by rw [e1]; simp
            have hd := highF_lt _ hm
            have hb := highF_bit _ hm
            have last := peak_last hn (by omega) hb hat
            have cell := CELL _ _ (peak_get (n := n) (pre := pre') (l := []) (h := c') e1 rfl)
            have cr : wr.cell? ⟨g, pre'.length, none⟩ = some (.int .u64 (placeN c' (n / 2 ^ c' - 1) : Int)) := by rw [← cell]; exact bel.cell (p := ⟨g, pre'.length, none⟩) hg
            rw [HS.out] at last
            rw [List.length_append, List.length_singleton] at L
            rw [hat]
            clear e1 e2 hlast hm hb hat CELL P N
            generalize placeN c' (n / 2 ^ c' - 1) = p at *
            generalize hl : pre'.length = m at *
            have m64 : (m : Int) ≤ 64 := by have := ones_le64 n; omega
            have nl : (pre' ++ [c']).length = ones n := by rw [List.length_append, List.length_singleton, hl, L]
            rw [nl]
            have W1 : IntKind.i64.wrap ((ones n : Int) - 1) = (m : Int) := by rw [wrap_i64_id (by omega) (by omega)]; omega
            have W2 : IntKind.u64.wrap ((sz : Int) - 1) = (p : Int) := by
              have hz := HS.out
              unfold nodeN at hz
              rw [wrap_u64]; omega
            have i2 : (m : Int) < (ones n : Int) := by omega
            clear nl hl L last cell
            go_wp2_with fail
            refine (awake3_any _).mono ?_
            rintro e w2 ⟨rfl, q2⟩
            go_wp2
            go_ret
            exact ⟨rfl, q1.trans ((bel.trans (q2.mono bel.size)).mono q1.size)⟩
        | cons h l =>
          obtain ⟨f1, f2⟩ := cover_head e2
          have hm : h ∈ highF 63 n := by rw [e1]; simp
          have hd := highF_lt h hm
          have hb := highF_bit h hm
          have hch : h < c := highF_lt h (by rw [e2]; simp)
          have r := peak_right hn (by omega) hb
          have U := UN_yes r
          have S := Spot_yes r
          have cell := CELL _ _ (peak_get e1 rfl)
          have here := peak_here hn (by omega) hb
          have ek : n / 2 ^ h - 1 + 1 = n / 2 ^ h := by
            clear U S cell here f1
            generalize n / 2 ^ h = q at *
            omega
          rw [ek, f1] at U
          have hl : pre.length < ones n := by
            have := high_ones 63 n (by omega) (by omega)
            rw [e1, List.length_append, List.length_cons] at this
            omega
          have cr : wr.cell? ⟨g, pre.length, none⟩ = some (.int .u64 (placeN h (n / 2 ^ h - 1) : Int)) := by rw [← cell]; exact bel.cell (p := ⟨g, pre.length, none⟩) hg
          have hli : (pre.length : Int) < (ones n : Int) := by omega
          rw [HS.out] at here
          have UP := PA_yes r
          have up := fun (h62 : h < 62) => peak_up hn h62 hb
          rw [HS.out] at up
          have TP : h = 62 → ∀ w, Calls Try.prog 31 #[.int .u64 (placeN h (n / 2 ^ h - 1))] w fun e w' => e = .returned (.tuple #[.int .u64 0, .bool false]) ∧ Below w.heap.size w w' := by
            intro e
            subst e
            exact PA_top r
          have PREV := Lib.hid (show ∀ pre' c', pre = pre' ++ [c'] → w1.cell? ⟨g, pre'.length, none⟩ = some (.int .u64 (placeN c' (n / 2 ^ c' - 1) : Int)) ∧ Right c' (n / 2 ^ c' - 1) ∧ h < c' from by
            rintro pre' c' rfl
            have e0 : highF 63 n = pre' ++ c' :: (h :: l) := by rw [e1]; simp
            obtain rfl : c' = c := hlast c' (by simp)
            have hm' : c' ∈ highF 63 n := by rw [e0]; simp
            exact ⟨CELL _ _ (peak_get e0 rfl), peak_right hn (by have := highF_lt _ hm'; omega) (highF_bit _ hm'), hch⟩)
          have RL := Lib.hid (show highF 63 n = (pre ++ [h]) ++ l by rw [e1]; simp)
          have F2 := Lib.hid f2
          have HLAST := Lib.hid hlast
          generalize hp : placeN h (n / 2 ^ h - 1) = p at *
          generalize hk : n / 2 ^ h - 1 = k at *
          generalize ha : n / 2 ^ c * 2 ^ c = a0 at *
          generalize ht : n / 2 ^ h * 2 ^ h = t at *
          have herei : (p : Int) < (sz : Int) := by omega
          clear e1 e2 f1 f2 hm hlast hb
          go_wp2_with fail
          refine (U _).mono ?_
          rintro e w2 ⟨rfl, q2⟩
          have gr : g < wr.heap.size := Nat.lt_of_lt_of_le hg bel.size
          have c2 : w2.cell? ⟨g, pre.length, none⟩ = some (.int .u64 (p : Int)) := by rw [← cr]; exact q2.cell (p := ⟨g, pre.length, none⟩) gr
          have bel2 : Below w1.heap.size w1 w2 := bel.trans (q2.mono bel.size)
          have g2 : g < w2.heap.size := Nat.lt_of_lt_of_le hg bel2.size
          clear cr q2 bel gr
          go_wp2_with fail
          refine (S _).mono ?_
          rintro e w3 ⟨rfl, q3⟩
          unfold spotV
          have c3 : w3.cell? ⟨g, pre.length, none⟩ = some (.int .u64 (p : Int)) := by rw [← c2]; exact q3.cell (p := ⟨g, pre.length, none⟩) g2
          have bel3 : Below w1.heap.size w1 w3 := bel2.trans (q3.mono bel2.size)
          have g3 : g < w3.heap.size := Nat.lt_of_lt_of_le hg bel3.size
          clear c2 q3 bel2 g2
          rcases List.eq_nil_or_concat pre with rfl | ⟨pre', c', epre⟩
          · have c30 : w3.cell? ⟨g, 0, none⟩ = some (.int .u64 (p : Int)) := c3
            clear c3
            by_cases h62 : h < 62
            · have UPA := UP h62
              have upi := up h62
              generalize hu : placeN (h + 1) (k / 2) = u at *
              have upi2 : (sz : Int) ≤ (u : Int) := by omega
              go_wp2_with fail
              refine (UPA _).mono ?_
              rintro e w4 ⟨rfl, q4⟩
              go_wp2
              go_roundw
              case rel => exact ⟨h, [h], l, RL.out, F2.out, by omega, (fun x hx => by simp at hx; omega), by rw [ht], by go_num, (bel3.alloc bel3.size _).trans (q4.mono (bel3.alloc bel3.size _).size)⟩
              case measure => simp [intOf]
            · have TPA := TP (by omega)
              go_wp2_with fail
              refine (TPA _).mono ?_
              rintro e w4 ⟨rfl, q4⟩
              go_wp2
              go_roundw
              case rel => exact ⟨h, [h], l, RL.out, F2.out, by omega, (fun x hx => by simp at hx; omega), by rw [ht], by go_num, (bel3.alloc bel3.size _).trans (q4.mono (bel3.alloc bel3.size _).size)⟩
              case measure => simp [intOf]
          · rw [List.concat_eq_append] at epre
            obtain ⟨cp, rp, hlt⟩ := PREV.out pre' c' epre
            have S2 := Spot_yes rp
            have cp3 : w3.cell? ⟨g, pre'.length, none⟩ = some (.int .u64 (placeN c' (n / 2 ^ c' - 1) : Int)) := by rw [← cp]; exact bel3.cell (p := ⟨g, pre'.length, none⟩) hg
            have hc62 := rp.1
            clear cp rp PREV
            have HO : pre.length = pre'.length + 1 := by rw [epre, List.length_append, List.length_singleton]
            generalize placeN c' (n / 2 ^ c' - 1) = p2 at *
            generalize n / 2 ^ c' - 1 = k2 at *
            generalize hm : pre'.length = m at *
            have NL := Lib.hid (show (pre ++ [h]).length = pre.length + 1 by rw [List.length_append, List.length_singleton])
            generalize hO : pre.length = o at *
            have o64 : o ≤ 64 := by have := ones_le64 n; omega
            have W1 : IntKind.i64.wrap ((o : Int) - 1) = (m : Int) := by rw [wrap_i64_id (by omega) (by omega)]; omega
            have W2 : IntKind.i64.wrap ((o : Int) + 1) = ((o + 1 : Nat) : Int) := by rw [wrap_i64_id (by omega) (by omega)]; omega
            have i3 : (0 : Int) < (o : Int) := by omega
            have i4 : (m : Int) < (ones n : Int) := by omega
            have i5 : (h : Int) < (c' : Int) := by omega
            have i6 : h < 62 := by omega
            have UPA := UP i6
            have upi := up i6
            generalize hu : placeN (h + 1) (k / 2) = u at *
            have upi2 : (sz : Int) ≤ (u : Int) := by omega
            have HO2 := Lib.hid hO
            clear HO hm hO
            go_wp2_with fail
            refine (S2 _).mono ?_
            rintro e w4 ⟨rfl, q4⟩
            unfold spotV
            obtain ⟨a1, a2, a3⟩ := (SpotAt.new w3 h k 24).below q4
            have bel3a := bel3.alloc (o := (.cells #[.int .u8 (h : Int), .int .u64 (k : Int)] 24 (0, 0))) bel3.size
            have c4 : w4.cell? ⟨g, o, none⟩ = some (.int .u64 (p : Int)) := by
              have q34 : Below w3.heap.size w3 w4 := ((Below.refl _ w3).alloc (Nat.le_refl _) (.cells #[.int .u8 (h : Int), .int .u64 (k : Int)] 24 (0, 0))).trans (q4.mono (by simp))
              rw [← c3]
              exact q34.cell (p := ⟨g, o, none⟩) g3
            have bel4 : Below w1.heap.size w1 w4 := bel3a.trans (q4.mono bel3a.size)
            have g4 : g < w4.heap.size := Nat.lt_of_lt_of_le hg bel4.size
            clear c3 cp3 q4 bel3a bel3 g3
            go_wp2_with fail
            refine (UPA _).mono ?_
            rintro e w5 ⟨rfl, q5⟩
            go_wp2
            go_roundw
            case rel => exact ⟨h, pre ++ [h], l, RL.out, F2.out, by omega, (fun x hx => by simp at hx; omega), by rw [ht], by rw [NL.out]; go_num, (bel4.alloc bel4.size _).trans (q5.mono (bel4.alloc bel4.size _).size)⟩
            case measure =>
                have := HO2.out
                simp [intOf]; omega
theorem nodeN_0 : nodeN 0 = 0 := by unfold nodeN; omega
theorem row_zero {w : World} {B : Nat} {t : TypeId} {v : Value} {xs : List Value} (h : w.ownsRow B t 1 v 0 xs) : ∃ s cap, v = .slice s 0 cap := by
  rcases h.2 with ⟨hv, _⟩ | ⟨g, cap, cur, hv, _⟩
  · exact ⟨_, _, hv⟩
  · exact ⟨_, _, hv⟩
theorem covers_zero (w : World) :
    Calls Try.prog 7 #[.int .u64 0] w fun e w' => e = .returned (.bool true) ∧ Below w.heap.size w w' := by
  have P := Peaks_yes (n := 0) (by decide)
  have N := Nodes_yes (n := 0) (by decide)
  rw [nodeN_0] at N
  have hl : (peaksL 0).length = 0 := by
    unfold peaksL
    rw [peaksF_map, List.length_map, high_ones 63 0 (by decide) (by decide), ones_zero]
  go_enter Try.func7, Try.ntmps7
  go_wp2_with fail
  refine (P _).mono ?_
  rintro e w1 ⟨v, rfl, hown, q1⟩
  rw [hl] at hown
  obtain ⟨s, cap, rfl⟩ := row_zero hown
  clear hl hown P
  go_wp2_with fail
  refine (N _).mono ?_
  rintro e w' ⟨rfl, rfl⟩
  go_wp2
  go_loop [7, 8] (fun b x => b = .int .i64 0 ∧ x = .int .u64 0) (fun _ _ => 0)
  case atStart => exact ⟨rfl, rfl⟩
  case round =>
    obtain ⟨rfl, rfl⟩ := hrel
    go_wp2
    go_loopw [6, 9] (fun a i wr => a = .int .u64 0 ∧ i = .int .i64 0 ∧ wr = w1) (fun _ i _ => 0)
    case atStart => exact ⟨rfl, rfl, rfl⟩
    case round =>
      obtain ⟨rfl, rfl, rfl⟩ := hrel
      go_wp2_with fail
      refine (awake3_any _).mono ?_
      rintro e w2 ⟨rfl, q2⟩
      go_wp2
      go_ret
      exact ⟨rfl, q1.trans (q2.mono q1.size)⟩
theorem walkPosCovers (a0 : Int) (w0 : (Lit.int .u64 a0).wf = true) (w : World) :
    Calls Try.prog 7 #[.int .u64 a0] w fun e w' => e = .returned (.bool true) ∧ Below w.heap.size w w' := by
  obtain ⟨n, rfl, hn⟩ := nat_of_u64 w0
  by_cases h : n ≤ 4611686018427387904
  · by_cases h0 : 0 < n
    · exact covers_yes h0 h w
    · obtain rfl : n = 0 := by omega
      exact covers_zero w
  · exact covers_no (by omega) w
end Go.Proofs.Ytkiomgnjjijbgaa
