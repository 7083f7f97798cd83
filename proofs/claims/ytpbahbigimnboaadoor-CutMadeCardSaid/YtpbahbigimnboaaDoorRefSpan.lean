/-
  The walk of massifref4.Span.
-/
import Derived.Test.YtpbahbigimnboaaDoorCutSpan
import Derived.Test.YtpbahbigimnboaaDoorRefPos
namespace Go.Proofs.YtpbahbigimnboaaDoor
open Go.RowKit
set_option linter.unusedVariables false

theorem refCutSpan_no {a b : Nat} (h : b ≤ a ∨ 4611686018427387904 < b) (w : World) :
    Calls Tryd.prog 9 #[.int .u64 a, .int .u64 b] w fun e w' => e = .returned (.slice none 0 0) ∧ w = w' := by
  by_cases h1 : b ≤ a
  · have i0 : decide ((b : Int) ≤ (a : Int)) = true := decide_eq_true (by omega)
    have i1 : (b : Int) ≤ (a : Int) := by omega
    clear h
    go_enter Tryd.func9, Tryd.ntmps9
    go_wp2
    go_ret
    exact ⟨rfl, rfl⟩
  · have h2 : 4611686018427387904 < b := by omega
    have i0 : (4611686018427387904 : Int) < (b : Int) := by omega
    have i1 : decide ((b : Int) ≤ (a : Int)) = false := decide_eq_false (by omega)
    have i2 : (a : Int) < (b : Int) := by omega
    clear h
    go_enter Tryd.func9, Tryd.ntmps9
    go_wp2
    go_ret
    exact ⟨rfl, rfl⟩
theorem refCutSpan_yes {a b : Nat} (hab : a < b) (hb : b ≤ 4611686018427387904) (w : World) :
    Calls Tryd.prog 9 #[.int .u64 a, .int .u64 b] w fun e w' => ∃ v, e = .returned v ∧ w'.ownsRow w.heap.size 28 2 v (spanL a b).length (spotC (spanL a b)) ∧ Below w.heap.size w w' := by
  obtain ⟨i0, hi, hz0, hz1, hz2⟩ := info_parts info_spot
  have hlen := spanL_len (a := a) hb
  generalize hB : w.heap.size = B
  have HB := Lib.hid hB
  have bi : (b : Int) ≤ 4611686018427387904 := by omega
  have ab : (a : Int) < (b : Int) := by omega
  have ab1 : decide ((b : Int) ≤ (a : Int)) = false := decide_eq_false (by omega)
  have ab2 : decide (b ≤ a) = false := decide_eq_false (by omega)
  have bi2 : decide ((4611686018427387904 : Int) < (b : Int)) = false := decide_eq_false (by omega)
  have HA := Lib.hid (show a < 18446744073709551616 by omega)
  clear hB
  go_enter Tryd.func9, Tryd.ntmps9
  go_wp2
  clear ab hab
  go_loopw [0, 5] (fun x v wr => CsRel a b B w x v wr) (fun x _ _ => b - (intOf x).toNat)
  case atStart => exact ⟨a, [], HA.out, rfl, rfl, World.ownsRow_nil _ _ _ _, Below.refl _ _⟩
  case round =>
    obtain ⟨y, pre, hy, rfl, hpre, hown, hbel⟩ := hrel
    have hBw : B ≤ wr.heap.size := by rw [← HB.out]; exact hbel.size
    have hl : pre.length ≤ 131 := by
      rw [← hpre, List.length_append] at hlen
      omega
    by_cases hlt : y < b
    · have yi : (y : Int) < (b : Int) := by omega
      obtain ⟨s1, s2, s3, s4⟩ := spanH_spec hlt hb
      have go := spanL_go hlt hb
      have P := Lib.hid hpre
      have GO := Lib.hid go
      have S2 := Lib.hid s2
      have S4 := Lib.hid s4
      generalize hh : spanH y b = h at *
      have HHH := Lib.hid hh
      clear hpre go s1 s2 s4 hlen hh
      go_wp2
      go_loop [6] (fun i => ∃ k : Nat, k ≤ h ∧ i = .int .i64 (k : Int)) (fun i => h - (intOf i).toNat)
      case atStart => exact ⟨0, by omega, rfl⟩
      case round =>
        obtain ⟨k, hk, rfl⟩ := hrel
        have ki : (k : Int) ≤ 62 := by omega
        have sub : IntKind.u64.wrap ((b : Int) - (y : Int)) = ((b - y : Nat) : Int) := by rw [wrap_u64]; omega
        by_cases hk62 : k < 62
        · have k62 : (k : Int) < 62 := by omega
          have P1 := power_any (h := k + 1) (by omega)
          have q0 := Nat.two_pow_pos (k + 1)
          have s := S4.out k hk62
          have pz : (((2 ^ (k + 1) : Nat) : Int) == 0) = false := by rw [beq_eq_false_iff_ne]; omega
          have pz2 : (0 : Int) < ((2 ^ (k + 1) : Nat) : Int) := by omega
          have rm : (y : Int) % ((2 ^ (k + 1) : Nat) : Int) = ((y % 2 ^ (k + 1) : Nat) : Int) := rfl
          by_cases hk2 : k < h
          · obtain ⟨m1, m2⟩ := s.2 hk2
            have c1 : ((2 ^ (k + 1) : Nat) : Int) ≤ ((b - y : Nat) : Int) := by omega
            rw [m1] at rm
            clear s m1
            generalize b - y = dd at *
            generalize 2 ^ (k + 1) = q at *
            go_wp2_with fail
            refine (P1 _).mono ?_
            rintro e w' ⟨rfl, rfl⟩
            go_wp2_with fail
            refine (P1 _).mono ?_
            rintro e w' ⟨rfl, rfl⟩
            go_wp2
            go_round
            case rel => exact ⟨k + 1, by omega, by go_num⟩
            case measure => simp [intOf]; omega
          · have hkh : k = h := by omega
            subst hkh
            by_cases hm : y % 2 ^ (k + 1) = 0
            · have le : ¬ 2 ^ (k + 1) ≤ b - y := fun c => hk2 (s.1 ⟨hm, c⟩)
              have c1 : decide (((2 ^ (k + 1) : Nat) : Int) ≤ ((b - y : Nat) : Int)) = false := decide_eq_false (by omega)
              have c2 : decide (2 ^ (k + 1) ≤ b - y) = false := decide_eq_false (by omega)
              have c3 : b - y < 2 ^ (k + 1) := by omega
              rw [hm] at rm
              clear s hm le
              have P2 := power_any (h := k) (by omega)
              have p0 := Nat.two_pow_pos k
              have dv : (y : Int) / ((2 ^ k : Nat) : Int) = ((y / 2 ^ k : Nat) : Int) := (Int.natCast_ediv y (2 ^ k)).symm
              have qle := Nat.div_le_self y (2 ^ k)
              have qi : ((y / 2 ^ k : Nat) : Int) ≤ 4611686018427387904 := by omega
              have pze : (((2 ^ k : Nat) : Int) == 0) = false := by rw [beq_eq_false_iff_ne]; omega
              have pze2 : (0 : Int) < ((2 ^ k : Nat) : Int) := by omega
              have s22 := S2.out
              have fits : (y : Int) + ((2 ^ k : Nat) : Int) ≤ 4611686018427387904 := by omega
              have P0 := Lib.hid (show y + 2 ^ k ≤ b ∧ 0 < 2 ^ k by omega)
              clear qle S4 s22 S2 HHH hlt hy p0
              generalize y / 2 ^ k = x at *
              generalize 2 ^ k = p at *
              generalize b - y = dd at *
              generalize 2 ^ (k + 1) = q at *
              go_wp2_with fail
              refine (P1 _).mono ?_
              rintro e w' ⟨rfl, rfl⟩
              go_wp2_with fail
              refine (P1 _).mono ?_
              rintro e w' ⟨rfl, rfl⟩
              go_wp2_with fail
              refine (P2 _).mono ?_
              rintro e w' ⟨rfl, rfl⟩
              go_wp2_with (at_builtin; refine wpList_append_own _ rfl _ _ 23 rfl B 28 i0 (.agg #[.int .u8 0, .int .u64 0]) 2 16 Tryd.underlying23 hi hz0 hz1 hz2 rfl (by decide) _ _ _ rfl (hown.alloc _) ⟨wr.heap.size, 0, none⟩ 1 1 [.int .u8 (k : Int), .int .u64 (x : Int)] rfl rfl (cell_new2 _ _ _ _) (two_ints _ _ _ _) (by unfold maxLen; omega) (by omega) (by simp; omega) ?_; intro v' w2 hown2 hg2 _)
              refine (P2 _).mono ?_
              rintro e w' ⟨rfl, rfl⟩
              go_wp2
              go_roundw
              case rel =>
                refine ⟨y + p, pre ++ [(k, x)], by have := P0.out; omega, by go_num, ?_, ?_, (hbel.alloc hBw _).grown hg2 (by simp; omega) fun k hk => (hown.lt k hk).1⟩
                · rw [← P.out, GO.out]; simp
                · rw [spotC_append, List.length_append]
                  exact hown2
              case measure =>
                have := P0.out
                simp [intOf]; omega
            · have hm2 : (((y % 2 ^ (k + 1) : Nat) : Int) == 0) = false := by rw [beq_eq_false_iff_ne]; omega
              have hm3 : 0 < y % 2 ^ (k + 1) := by omega
              clear s
              have P2 := power_any (h := k) (by omega)
              have p0 := Nat.two_pow_pos k
              have dv : (y : Int) / ((2 ^ k : Nat) : Int) = ((y / 2 ^ k : Nat) : Int) := (Int.natCast_ediv y (2 ^ k)).symm
              have qle := Nat.div_le_self y (2 ^ k)
              have qi : ((y / 2 ^ k : Nat) : Int) ≤ 4611686018427387904 := by omega
              have pze : (((2 ^ k : Nat) : Int) == 0) = false := by rw [beq_eq_false_iff_ne]; omega
              have pze2 : (0 : Int) < ((2 ^ k : Nat) : Int) := by omega
              have s22 := S2.out
              have fits : (y : Int) + ((2 ^ k : Nat) : Int) ≤ 4611686018427387904 := by omega
              have P0 := Lib.hid (show y + 2 ^ k ≤ b ∧ 0 < 2 ^ k by omega)
              clear qle S4 s22 S2 HHH hlt hy p0
              generalize y / 2 ^ k = x at *
              generalize 2 ^ k = p at *
              generalize y % 2 ^ (k + 1) = rr at *
              generalize b - y = dd at *
              generalize 2 ^ (k + 1) = q at *
              go_wp2_with fail
              refine (P1 _).mono ?_
              rintro e w' ⟨rfl, rfl⟩
              go_wp2_with fail
              refine (P2 _).mono ?_
              rintro e w' ⟨rfl, rfl⟩
              go_wp2_with (at_builtin; refine wpList_append_own _ rfl _ _ 23 rfl B 28 i0 (.agg #[.int .u8 0, .int .u64 0]) 2 16 Tryd.underlying23 hi hz0 hz1 hz2 rfl (by decide) _ _ _ rfl (hown.alloc _) ⟨wr.heap.size, 0, none⟩ 1 1 [.int .u8 (k : Int), .int .u64 (x : Int)] rfl rfl (cell_new2 _ _ _ _) (two_ints _ _ _ _) (by unfold maxLen; omega) (by omega) (by simp; omega) ?_; intro v' w2 hown2 hg2 _)
              refine (P2 _).mono ?_
              rintro e w' ⟨rfl, rfl⟩
              go_wp2
              go_roundw
              case rel =>
                refine ⟨y + p, pre ++ [(k, x)], by have := P0.out; omega, by go_num, ?_, ?_, (hbel.alloc hBw _).grown hg2 (by simp; omega) fun k hk => (hown.lt k hk).1⟩
                · rw [← P.out, GO.out]; simp
                · rw [spotC_append, List.length_append]
                  exact hown2
              case measure =>
                have := P0.out
                simp [intOf]; omega
        · have hkh : k = h := by omega
          subst hkh
          have k62 : k = 62 := by omega
          have k62i : decide ((k : Int) < 62) = false := decide_eq_false (by omega)
          have k62j : (62 : Int) ≤ (k : Int) := by omega
          clear k62 hk62
          have P2 := power_any (h := k) (by omega)
          have p0 := Nat.two_pow_pos k
          have dv : (y : Int) / ((2 ^ k : Nat) : Int) = ((y / 2 ^ k : Nat) : Int) := (Int.natCast_ediv y (2 ^ k)).symm
          have qle := Nat.div_le_self y (2 ^ k)
          have qi : ((y / 2 ^ k : Nat) : Int) ≤ 4611686018427387904 := by omega
          have pze : (((2 ^ k : Nat) : Int) == 0) = false := by rw [beq_eq_false_iff_ne]; omega
          have pze2 : (0 : Int) < ((2 ^ k : Nat) : Int) := by omega
          have s22 := S2.out
          have fits : (y : Int) + ((2 ^ k : Nat) : Int) ≤ 4611686018427387904 := by omega
          have P0 := Lib.hid (show y + 2 ^ k ≤ b ∧ 0 < 2 ^ k by omega)
          clear qle S4 s22 S2 HHH hlt hy p0
          generalize y / 2 ^ k = x at *
          generalize 2 ^ k = p at *
          go_wp2_with fail
          refine (P2 _).mono ?_
          rintro e w' ⟨rfl, rfl⟩
          go_wp2_with (at_builtin; refine wpList_append_own _ rfl _ _ 23 rfl B 28 i0 (.agg #[.int .u8 0, .int .u64 0]) 2 16 Tryd.underlying23 hi hz0 hz1 hz2 rfl (by decide) _ _ _ rfl (hown.alloc _) ⟨wr.heap.size, 0, none⟩ 1 1 [.int .u8 (k : Int), .int .u64 (x : Int)] rfl rfl (cell_new2 _ _ _ _) (two_ints _ _ _ _) (by unfold maxLen; omega) (by omega) (by simp; omega) ?_; intro v' w2 hown2 hg2 _)
          refine (P2 _).mono ?_
          rintro e w' ⟨rfl, rfl⟩
          go_wp2
          go_roundw
          case rel =>
            refine ⟨y + p, pre ++ [(k, x)], by have := P0.out; omega, by go_num, ?_, ?_, (hbel.alloc hBw _).grown hg2 (by simp; omega) fun k hk => (hown.lt k hk).1⟩
            · rw [← P.out, GO.out]; simp
            · rw [spotC_append, List.length_append]
              exact hown2
          case measure =>
            have := P0.out
            simp [intOf]; omega
    · have yi : decide ((y : Int) < (b : Int)) = false := decide_eq_false (by omega)
      have yn : b ≤ y := by omega
      have e : spanL a b = pre := by rw [← hpre, spanL_stop hlt, List.append_nil]
      have E := Lib.hid e
      clear hpre e hy hlen hlt
      go_wp2
      go_ret
      refine ⟨_, rfl, ?_, hbel⟩
      rw [E.out]
      exact hown
end Go.Proofs.YtpbahbigimnboaaDoor
