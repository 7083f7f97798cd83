/-
  The walks of pos.Nodes and pos.Peaks.
-/
import Derived.Test.YtpbahbigimnboaaDoorPosSpot
namespace Go.Proofs.YtpbahbigimnboaaDoor
open Go.RowKit
set_option linter.unusedVariables false

theorem info_u64 : (Tryd.prog.info? 22).map (fun i => (i.zero, i.size, i.bytes)) = some (some (.int .u64 0), 1, 8) := by kernel_rfl
def u64s (l : List Nat) : List Value := l.map fun (c : Nat) => Value.int .u64 (c : Int)
theorem u64s_length (l : List Nat) : (u64s l).length = l.length := by simp [u64s]
theorem u64s_append (l m : List Nat) : u64s (l ++ m) = u64s l ++ u64s m := by simp [u64s]
theorem u64s_get (l : List Nat) (j : Nat) : (u64s l)[j]? = l[j]?.map fun (c : Nat) => Value.int .u64 (c : Int) := by simp [u64s]
theorem one_cell (k : IntKind) (n : Int) : ∀ u ∈ [Value.int k n], u.oneCell' = true := by
  intro u hu
  simp only [List.mem_singleton] at hu
  subst hu
  rfl
theorem new_cell (w : World) (v : Value) (t : TypeId) : ∀ (j : Nat) u, [v][j]? = some u → (w.alloc (.cells #[v] t (0, 0))).cell? ((⟨w.heap.size, 0, none⟩ : Addr).add j) = some u := by
  intro j u h
  cases j with
  | zero =>
    simp only [List.getElem?_cons_zero, Option.some.injEq] at h
    subst h
    rw [show (⟨w.heap.size, 0, none⟩ : Addr).add 0 = ⟨w.heap.size, 0, none⟩ from rfl, cell_of_row _ _ _ _ _ _ (heap_alloc_new w _)]
    rfl
  | succ j => simp at h
theorem own_below {w w' : World} {B : Nat} {e : TypeId} {size : Nat} {v : Value} {n : Nat} {xs : List Value} (h : w.ownsRow B e size v n xs) (hb : Below w.heap.size w w') : w'.ownsRow B e size v n xs := by
  obtain ⟨hl, h⟩ := h
  refine ⟨hl, ?_⟩
  rcases h with ⟨h1, h2⟩ | ⟨g, cap, cur, hv, hg, hh, hr⟩
  · exact .inl ⟨h1, h2⟩
  · exact .inr ⟨g, cap, cur, hv, hg, below_at hb (lt_of_heap hh) hh, hr⟩
theorem row_cellAt {w : World} {B : Nat} {t : TypeId} {g cap n : Nat} {xs : List Value} (h : w.ownsRow B t 1 (.slice (some ⟨g, 0, none⟩) n cap) n xs) {j : Nat} {u : Value} (hj : xs[j]? = some u) : w.cell? ⟨g, j, none⟩ = some u := by
  have := h.cells (g := g) rfl j u hj
  rwa [show (⟨g, 0, none⟩ : Addr).add j = ⟨g, j, none⟩ by unfold Addr.add; split <;> simp_all] at this
theorem row_form {w : World} {B : Nat} {t : TypeId} {n : Nat} {v : Value} {xs : List Value} (h : w.ownsRow B t 1 v n xs) (hn : 0 < n) : ∃ g cap, v = .slice (some ⟨g, 0, none⟩) n cap ∧ B ≤ g ∧ g < w.heap.size ∧ n ≤ cap := by
  rcases h.2 with ⟨_, h0⟩ | ⟨g, cap, cur, hv, hg, hh, hc, _⟩
  · omega
  · exact ⟨g, cap, hv, hg, lt_of_heap hh, hc⟩

theorem Nodes_yes {n : Nat} (h : n ≤ 4611686018427387904) (w : World) :
    Calls Tryd.prog 15 #[.int .u64 n] w fun e w' => e = .returned (.tuple #[.int .u64 (nodeN n), .bool true]) ∧ w = w' := by
  have i0 : (n : Int) ≤ 4611686018427387904 := by omega
  go_enter Tryd.func15, Tryd.ntmps15
  go_wp2_with fail
  refine (nodes_any (by omega) _).mono ?_
  rintro e w' ⟨rfl, rfl⟩
  go_wp2
  go_ret2
  exact ⟨rfl, rfl⟩
theorem Nodes_no {n : Nat} (h : 4611686018427387904 < n) (w : World) :
    Calls Tryd.prog 15 #[.int .u64 n] w fun e w' => e = .returned (.tuple #[.int .u64 0, .bool false]) ∧ w = w' := by
  have i0 : (4611686018427387904 : Int) < (n : Int) := by omega
  go_enter Tryd.func15, Tryd.ntmps15
  go_wp2
  go_ret2
  exact ⟨rfl, rfl⟩

/-- The places of the peaks of heights below c. -/
def peaksF : Nat → Nat → List Nat
  | 0, _ => []
  | c + 1, n => if n / 2 ^ c % 2 = 1 then placeN c (n / 2 ^ c - 1) :: peaksF c n else peaksF c n
def peaksL (n : Nat) : List Nat := peaksF 63 n
theorem peaksF_len : ∀ c n, (peaksF c n).length ≤ c
  | 0, _ => Nat.le_refl _
  | c + 1, n => by
    have := peaksF_len c n
    unfold peaksF
    split
    · simp only [List.length_cons]; omega
    · omega
theorem peak_right {n d : Nat} (hn : n ≤ 4611686018427387904) (hd : d ≤ 62) (h : n / 2 ^ d % 2 = 1) : Right d (n / 2 ^ d - 1) := by
  refine ⟨hd, ?_⟩
  have e2 : (4611686018427387904 : Nat) = 2 ^ (62 - d) * 2 ^ d := by
    rw [← Nat.pow_add, show 62 - d + d = 62 by omega]
  have h1 : n / 2 ^ d ≤ 2 ^ (62 - d) := by
    have := Nat.div_le_div_right (c := 2 ^ d) hn
    rwa [e2, Nat.mul_div_cancel _ (Nat.two_pow_pos d)] at this
  generalize n / 2 ^ d = q at *
  omega
attribute [irreducible] peaksL

theorem and1_u64 {q : Nat} (h : q < 18446744073709551616) : bits .and .u64 (q : Int) 1 = ((q % 2 : Nat) : Int) := by
  have := andU q 1 h (by decide)
  rw [Nat.and_one_is_mod] at this
  exact this

def PkRel (n base : Nat) (w : World) (v h : Value) (wr : World) : Prop :=
  ∃ (c : Nat) (pre : List Nat), c ≤ 63 ∧ h = .int .i64 ((c : Int) - 1) ∧ pre ++ peaksF c n = peaksL n ∧ pre.length + c ≤ 63 ∧
    wr.ownsRow base 22 1 v pre.length (u64s pre) ∧ Below base w wr

theorem Peaks_no {n : Nat} (h : 4611686018427387904 < n) (w : World) :
    Calls Tryd.prog 17 #[.int .u64 n] w fun e w' => e = .returned (.slice none 0 0) ∧ w = w' := by
  have i0 : (4611686018427387904 : Int) < (n : Int) := by omega
  go_enter Tryd.func17, Tryd.ntmps17
  go_wp2
  go_loop [3, 4] (fun v h => v = .slice none 0 0 ∧ h = .int .i64 62) (fun _ _ => 0)
  case atStart => exact ⟨rfl, rfl⟩
  case round =>
    obtain ⟨rfl, rfl⟩ := hrel
    go_wp2
    go_ret
    exact ⟨rfl, rfl⟩
theorem Peaks_yes {n : Nat} (hn : n ≤ 4611686018427387904) (w : World) :
    Calls Tryd.prog 17 #[.int .u64 n] w fun e w' => ∃ v, e = .returned v ∧ w'.ownsRow w.heap.size 22 1 v (peaksL n).length (u64s (peaksL n)) ∧ Below w.heap.size w w' := by
  obtain ⟨i0, hi, hz0, hz1, hz2⟩ := info_parts info_u64
  generalize hB : w.heap.size = B
  have HB := Lib.hid hB
  clear hB
  have hn2 : (n : Int) ≤ 4611686018427387904 := by omega
  go_enter Tryd.func17, Tryd.ntmps17
  go_wp2
  go_loopw [3, 4] (fun v h wr => PkRel n B w v h wr) (fun _ h _ => (intOf h + 1).toNat)
  case atStart => exact ⟨63, [], by omega, rfl, by unfold peaksL; rfl, by simp, World.ownsRow_nil _ _ _ _, Below.refl _ _⟩
  case round =>
    obtain ⟨c, pre, hc, rfl, hpre, hlen, hown, hbel⟩ := hrel
    have hBw : B ≤ wr.heap.size := by rw [← HB.out]; exact hbel.size
    by_cases hlt : 0 < c
    · obtain ⟨d, rfl⟩ : ∃ d, c = d + 1 := ⟨c - 1, by omega⟩
      have ed : ((d + 1 : Nat) : Int) - 1 = (d : Int) := by omega
      rw [ed]
      clear ed
      have hd : d ≤ 62 := by omega
      have i1 : (d : Int) ≤ 62 := by omega
      unfold peaksF at hpre
      have PR := peak_right hn hd
      have DV := div_min (x := n) (by omega) d
      rw [show min d 64 = d by omega] at DV
      generalize hq : n / 2 ^ d = q at *
      have hq64 : q < 18446744073709551616 := by
        have := Nat.div_le_self n (2 ^ d)
        omega
      clear hq
      by_cases hb : q % 2 = 1
      · rw [if_pos hb] at hpre
        have r := PR hb
        clear PR
        obtain ⟨k, rfl⟩ : ∃ k, q = k + 1 := ⟨q - 1, by omega⟩
        rw [Nat.add_sub_cancel] at hpre r
        have AN := and1_u64 hq64
        rw [hb] at AN
        have P := Lib.hid hpre
        clear hpre hb
        have DW : ((n : Int)) / 2 ^ d = (k : Int) + 1 := DV
        have hb3 : bits .and .u64 ((k : Int) + 1) 1 = 1 := AN
        clear DV AN
        go_wp2_with fail
        refine (Place_yes r _).mono ?_
        rintro e w1 ⟨rfl, bel1⟩
        have hown1 := own_below hown bel1
        have bel2 : Below B w w1 := hbel.trans (bel1.mono hBw)
        have hB1 : B ≤ w1.heap.size := Nat.le_trans hBw bel1.size
        clear hown bel1
        go_wp2_with (at_builtin; refine wpList_append_own _ rfl _ _ 36 rfl B 22 i0 (.int .u64 0) 1 8 Tryd.underlying36 hi hz0 hz1 hz2 rfl (by decide) _ _ _ rfl (hown1.alloc _) ⟨w1.heap.size, 0, none⟩ 1 1 [.int .u64 (placeN d k : Int)] rfl rfl (new_cell _ _ _) (one_cell _ _) (by unfold maxLen; omega) (by omega) (by simp; omega) ?_; intro v' w2 hown2 hg2 _)
        go_roundw
        case rel =>
          refine ⟨d, pre ++ [placeN d k], by omega, rfl, ?_, ?_, ?_, ?_⟩
          · rw [← P.out]; simp
          · simp only [List.length_append, List.length_singleton]; omega
          · simpa [u64s] using hown2
          · exact ((bel2.alloc hB1 _).grown hg2 (by simp; omega) fun k hk => (hown1.lt k hk).1)
        case measure => simp [intOf]
      · rw [if_neg hb] at hpre
        clear PR
        have AN := and1_u64 hq64
        rw [show q % 2 = 0 by omega] at AN
        have P := Lib.hid hpre
        clear hpre hb
        have hb3 : bits .and .u64 (q : Int) 1 = 0 := AN
        clear AN
        go_wp2
        go_roundw
        case rel => exact ⟨d, pre, by omega, rfl, P.out, by omega, hown, hbel⟩
        case measure => simp [intOf]
    · obtain rfl : c = 0 := by omega
      have P := Lib.hid hpre
      clear hpre
      have e0 : ((0 : Nat) : Int) - 1 = -1 := by decide
      rw [e0]
      clear e0
      go_wp2
      go_ret
      refine ⟨_, rfl, ?_, hbel⟩
      have e : peaksL n = pre := by rw [← P.out]; simp [peaksF]
      rw [e]
      exact hown
end Go.Proofs.YtpbahbigimnboaaDoor
