/-
  massiflaw1.NumCounts: the walk.
-/
import Derived.Test.YtlmihaeknmeeiaaDoorBits
import Derived.Test.YtlmihaeknmeeiaaDoorOnesWalk
import Derived.Test.YtlmihaeknmeeiaaDoorAwake
import Derived.Deep.RegionHeld3
import Derived.Deep.QuietTactic
import Derived.BigQuiet
namespace Go.Proofs.YtlmihaeknmeeiaaDoor
open Go.RowKit
set_option linter.unusedVariables false

def sumP (l : List Nat) (k : Nat) : Nat := ((l.take k).map fun p => 2 ^ p).sum
theorem sumP_step {l : List Nat} {k p : Nat} (h : l[k]? = some p) : sumP l (k + 1) = sumP l k + 2 ^ p := by
  unfold sumP
  rw [List.take_add_one, h, List.map_append, List.sum_append]
  simp
theorem sumP_le (l : List Nat) (k : Nat) : sumP l k ≤ (l.map fun p => 2 ^ p).sum := by
  unfold sumP
  conv => rhs; rw [← List.take_append_drop k l, List.map_append, List.sum_append]
  omega
theorem i64s_get (l : List Nat) (j : Nat) : (i64s l)[j]? = l[j]?.map fun (c : Nat) => Value.int .i64 (c : Int) := by simp [i64s]
theorem wrap_i64_id {n : Int} (h0 : -9223372036854775808 ≤ n) (h1 : n ≤ 9223372036854775807) : IntKind.i64.wrap n = n := by
  rw [IntKind.wrap_i64]; omega

theorem shl_one {p : Nat} (h : p < 64) : shlN 1 (p : Int) = 2 ^ p := by
  unfold shlN
  rw [if_neg (by omega), Int.toNat_natCast, Nat.one_mul]
  have : 2 ^ p < 2 ^ 64 := Nat.pow_lt_pow_right (by decide) h
  exact Nat.mod_eq_of_lt (by omega)

theorem counts_zero (w : World) (T : TabAt w) :
    Calls Tryd.prog 4 #[.int .u64 0] w fun e w' => e = .returned (.bool true) ∧ Below w.heap.size w w' := by
  have B := Bits_any (x := 0) (by decide) w T
  rw [posL_zero] at B
  have O := Ones_any (x := 0) (by decide)
  have o0 : ones 0 = 0 := by rw [← posL_len, posL_zero]; rfl
  rw [o0] at O
  have H := High_any (x := 0) (by decide)
  rw [lenN_zero] at H
  have TT := Lib.hid T
  clear T o0
  go_enter Tryd.func4, Tryd.ntmps4
  go_wp2_with fail
  refine B.mono ?_
  rintro e w1 ⟨v, rfl, hown, q1⟩
  have L := Low_any (x := 0) (by decide) w1 (TT.out.below q1)
  rw [tzN_zero] at L
  obtain ⟨s, cap, rfl⟩ : ∃ s cap, v = .slice s 0 cap := by
    rcases hown.2 with ⟨hv, _⟩ | ⟨g, cap, cur, hv, _⟩
    · exact ⟨_, _, hv⟩
    · exact ⟨_, _, hv⟩
  clear hown B
  go_wp2
  go_loop [4, 5] (fun y i => y = .int .u64 0 ∧ i = .int .i64 0) (fun _ _ => 0)
  case atStart => exact ⟨rfl, rfl⟩
  case round =>
    obtain ⟨rfl, rfl⟩ := hrel
    go_wp2_with fail
    refine (O _).mono ?_
    rintro e w' ⟨rfl, rfl⟩
    go_wp2_with fail
    refine L.mono ?_
    rintro e w' ⟨rfl, rfl⟩
    go_wp2_with fail
    refine (H _).mono ?_
    rintro e w' ⟨rfl, rfl⟩
    go_wp2_with fail
    refine (awake_any _).mono ?_
    rintro e w2 ⟨rfl, q2⟩
    go_wp2
    go_ret
    exact ⟨rfl, q1.trans (q2.mono q1.size)⟩
def CoRel (l : List Nat) (w1 : World) (y i : Value) (wr : World) : Prop :=
  ∃ k : Nat, k ≤ l.length ∧ i = .int .i64 (k : Int) ∧ y = .int .u64 (sumP l k : Nat) ∧ Below w1.heap.size w1 wr
set_option maxRecDepth 20000 in
theorem counts_some {x : Nat} (hx : x < 18446744073709551616) (h0 : x ≠ 0) (w : World) (T : TabAt w) :
    Calls Tryd.prog 4 #[.int .u64 x] w fun e w' => e = .returned (.bool true) ∧ Below w.heap.size w w' := by
  have B := Bits_any hx w T
  have O := Ones_any hx
  have H := High_any hx
  obtain ⟨e1, _⟩ := posL_low hx h0
  obtain ⟨pre, e2⟩ := posL_high hx h0
  have l1 := (lenN_spec hx h0).1
  have l64 := lenN_le x hx
  have hsum := posL_sum hx
  have hlen := posL_len x
  have hle := posL_le x
  have hn : 0 < (posL x).length := by rw [e1]; simp
  have first : (posL x)[0]? = some (tzN x) := by rw [e1]; rfl
  have last : (posL x)[(posL x).length - 1]? = some (lenN x - 1) := by rw [e2]; simp
  have RISE := Lib.hid (show ∀ k a b, (posL x)[k]? = some a → (posL x)[k + 1]? = some b → a < b from fun k a b => posI_rise 64 0 x k a b)
  have LO := Lib.hid (show ∀ p, p ∈ posL x → p < 64 from fun p h => by have := (posI_lo 64 0 x p h).2; omega)
  have HX := Lib.hid hx
  have TT := Lib.hid T
  have xne : ((x : Int) == 0) = false := by rw [beq_eq_false_iff_ne]; omega
  rw [← hlen] at O
  clear e1 e2 T hlen hx
  generalize posL x = l at *
  generalize lenN x = h at *
  generalize ht : tzN x = t at *
  have HTZ := Lib.hid ht
  clear ht
  have FIRST := Lib.hid first
  have LAST := Lib.hid last
  have HS := Lib.hid hsum
  clear first last hsum
  go_enter Tryd.func4, Tryd.ntmps4
  go_wp2_with fail
  refine B.mono ?_
  rintro e w1 ⟨v, rfl, hown, q1⟩
  obtain ⟨g, cap, rfl, _, hg, hcap⟩ := own_form hown hn
  have CELL := Lib.hid (show ∀ (j p : Nat), l[j]? = some p → w1.cell? ⟨g, j, none⟩ = some (.int .i64 (p : Int)) from fun j p hj => own_cell hown (by rw [i64s_get, hj]; rfl))
  have L := fun w' (q : Below w1.heap.size w1 w') => Low_any HX.out w' ((TT.out.below q1).below q)
  rw [HTZ.out] at L
  have LL := Lib.hid L
  clear hown B L
  go_wp2
  go_loopw [4, 5] (fun y i wr => CoRel l w1 y i wr) (fun _ i _ => l.length - (intOf i).toNat)
  case atStart => exact ⟨0, by omega, rfl, rfl, Below.refl _ _⟩
  case round =>
    obtain ⟨k, hk, rfl, rfl, bel⟩ := hrel
    by_cases hlt : k < l.length
    · obtain ⟨p, hp⟩ : ∃ p, l[k]? = some p := ⟨l[k], List.getElem?_eq_getElem hlt⟩
      have p64 := LO.out p (List.mem_of_getElem? hp)
      have cp : wr.cell? ⟨g, k, none⟩ = some (.int .i64 (p : Int)) := by rw [← CELL.out k p hp]; exact bel.cell (p := ⟨g, k, none⟩) hg
      have st := sumP_step hp
      have sl := sumP_le l (k + 1)
      rw [HS.out, st] at sl
      have ST := Lib.hid st
      have SH := Shl_any (x := 1) (n := (p : Int)) (by decide) (by omega) (by omega)
      rw [shl_one p64] at SH
      have WR : IntKind.u64.wrap ((sumP l k : Int) + ((2 ^ p : Nat) : Int)) = ((sumP l k + 2 ^ p : Nat) : Int) := by
        have := HX.out
        rw [wrap_u64]; omega
      have g1 : decide ((p : Int) < 0) = false := decide_eq_false (by omega)
      have g2 : decide ((63 : Int) < (p : Int)) = false := decide_eq_false (by omega)
      have ki : (k : Int) < (l.length : Int) := by omega
      have k64 : (k : Int) ≤ 64 := by omega
      by_cases hk0 : 0 < k
      · obtain ⟨q, hq⟩ : ∃ q, l[k - 1]? = some q := ⟨l[k - 1]'(by omega), List.getElem?_eq_getElem _⟩
        have hr := RISE.out (k - 1) q p hq (by rw [show k - 1 + 1 = k by omega]; exact hp)
        have cq : wr.cell? ⟨g, k - 1, none⟩ = some (.int .i64 (q : Int)) := by rw [← CELL.out (k - 1) q hq]; exact bel.cell (p := ⟨g, k - 1, none⟩) hg
        have g3 : (0 : Int) < (k : Int) := by omega
        have g4 : decide ((p : Int) ≤ (q : Int)) = false := decide_eq_false (by omega)
        have g5 : decide (p ≤ q) = false := decide_eq_false (by omega)
        have g6 : q < p := hr
        obtain ⟨j, hj⟩ : ∃ j, k - 1 = j := ⟨_, rfl⟩
        have W1 : IntKind.i64.wrap ((k : Int) - 1) = (j : Int) := by rw [wrap_i64_id (by omega) (by omega)]; omega
        have ji : (j : Int) < (l.length : Int) := by omega
        rw [hj] at cq
        clear hq hp sl st hj hr
        generalize 2 ^ p = pw at *
        generalize sumP l k = s at *
        go_wp2_with fail
        go_quiet (fail)
        go_wp2_with fail
        refine (SH _).mono ?_
        rintro e w' ⟨rfl, rfl⟩
        go_wp2
        go_roundw
        case rel => exact ⟨k + 1, by omega, by go_num, by rw [ST.out]; go_num, below_drewN bel nq⟩
        case measure => simp [intOf]; omega
      · obtain rfl : k = 0 := by omega
        have c0 : wr.cell? ⟨g, 0, none⟩ = some (.int .i64 (p : Int)) := cp
        clear hp sl st hk0 cp
        generalize 2 ^ p = pw at *
        generalize sumP l 0 = s at *
        go_wp2_with fail
        go_quiet (fail)
        go_wp2_with fail
        refine (SH _).mono ?_
        rintro e w' ⟨rfl, rfl⟩
        go_wp2
        go_roundw
        case rel => exact ⟨1, by omega, by go_num, by rw [ST.out]; go_num, below_drewN bel nq⟩
        case measure => simp [intOf]; omega
    · obtain rfl : k = l.length := by omega
      have hy : sumP l l.length = x := by
        unfold sumP
        rw [List.take_length]
        exact HS.out
      rw [hy]
      have c0 : wr.cell? ⟨g, 0, none⟩ = some (.int .i64 (t : Int)) := by rw [← CELL.out 0 t FIRST.out]; exact bel.cell (p := ⟨g, 0, none⟩) hg
      have cl : wr.cell? ⟨g, l.length - 1, none⟩ = some (.int .i64 ((h - 1 : Nat) : Int)) := by rw [← CELL.out _ _ LAST.out]; exact bel.cell (p := ⟨g, l.length - 1, none⟩) hg
      obtain ⟨j, hj⟩ : ∃ j, l.length - 1 = j := ⟨_, rfl⟩
      have W1 : IntKind.i64.wrap ((l.length : Int) - 1) = (j : Int) := by rw [wrap_i64_id (by omega) (by omega)]; omega
      have ji : (j : Int) < (l.length : Int) := by omega
      have l0 : (0 : Int) < (l.length : Int) := by omega
      obtain ⟨m, hm⟩ : ∃ m, h - 1 = m := ⟨_, rfl⟩
      have eh : (h : Int) - 1 = (m : Int) := by omega
      rw [hj, hm] at cl
      rw [eh] at H
      have gr : g < wr.heap.size := Nat.lt_of_lt_of_le hg bel.size
      clear hy hj hm eh
      go_wp2_with fail
      refine (O _).mono ?_
      rintro e w' ⟨rfl, rfl⟩
      go_wp2_with fail
      go_region_held3 (fun w' => w'.cell? ⟨g, 0, none⟩ = some (.int .i64 (t : Int)) ∧ w'.cell? ⟨g, j, none⟩ = some (.int .i64 (m : Int)) ∧ Below w1.heap.size w1 w') (first | assumption | exact ⟨c0, cl, bel.drew⟩) (first | (go_at_call 7; refine (LL.out wr.drew bel.drew).mono ?_; rintro e w' ⟨rfl, rfl⟩) | (go_at_call 9; refine (H _).mono ?_; rintro e w' ⟨rfl, rfl⟩) | (go_at_call 14; refine (awake_any _).mono ?_; rintro e w5 ⟨rfl, q5⟩; have b5 : Below wr.heap.size wr w5 := ((Below.refl _ _).drew).trans (q5.mono (Nat.le_refl _)); have S5 : w5.cell? ⟨g, 0, none⟩ = some (.int .i64 (t : Int)) ∧ w5.cell? ⟨g, j, none⟩ = some (.int .i64 (m : Int)) ∧ Below w1.heap.size w1 w5 := ⟨by rw [← c0]; exact b5.cell (p := ⟨g, 0, none⟩) gr, by rw [← cl]; exact b5.cell (p := ⟨g, j, none⟩) gr, bel.trans (b5.mono bel.size)⟩))
      go_wp2
      go_ret
      exact ⟨rfl, q1.trans (S5.2.2.mono q1.size)⟩
theorem walkNumCounts (a0 : Int) (w0 : (Lit.int .u64 a0).wf = true) (w : World) (T : TabAt w) :
    Calls Tryd.prog 4 #[.int .u64 a0] w fun e w' => e = .returned (.bool true) ∧ Below w.heap.size w w' := by
  obtain ⟨x, rfl, hx⟩ := nat_of_u64 w0
  by_cases h : x = 0
  · subst h
    exact counts_zero w T
  · exact counts_some hx h w T
end Go.Proofs.YtlmihaeknmeeiaaDoor
