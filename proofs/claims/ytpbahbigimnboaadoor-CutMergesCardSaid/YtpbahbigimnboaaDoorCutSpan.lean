/-
  The walk of cut.Span.
-/
import Derived.Test.YtpbahbigimnboaaDoorSpan
import Derived.Test.YtpbahbigimnboaaDoorSpotRow
namespace Go.Proofs.YtpbahbigimnboaaDoor
open Go.RowKit
set_option linter.unusedVariables false

def CsRel (a b B : Nat) (w : World) (x v : Value) (wr : World) : Prop :=
  ∃ (y : Nat) (pre : List (Nat × Nat)), y < 18446744073709551616 ∧ x = .int .u64 (y : Int) ∧ pre ++ spanL y b = spanL a b ∧
    wr.ownsRow B 28 2 v pre.length (spotC pre) ∧ Below B w wr
theorem cutSpan_no {a b : Nat} (hb : 4611686018427387904 < b) (w : World) :
    Calls Tryd.prog 11 #[.int .u64 a, .int .u64 b] w fun e w' => e = .returned (.slice none 0 0) ∧ w = w' := by
  have i0 : (4611686018427387904 : Int) < (b : Int) := by omega
  go_enter Tryd.func11, Tryd.ntmps11
  go_wp2
  go_ret
  exact ⟨rfl, rfl⟩
theorem cutSpan_yes {a b : Nat} (ha : a < 18446744073709551616) (hb : b ≤ 4611686018427387904) (w : World) (T : TabAt w) :
    Calls Tryd.prog 11 #[.int .u64 a, .int .u64 b] w fun e w' => ∃ v, e = .returned v ∧ w'.ownsRow w.heap.size 28 2 v (spanL a b).length (spotC (spanL a b)) ∧ Below w.heap.size w w' := by
  obtain ⟨i0, hi, hz0, hz1, hz2⟩ := info_parts info_spot
  have hlen := spanL_len (a := a) hb
  generalize hB : w.heap.size = B
  have HB := Lib.hid hB
  have TT := Lib.hid T
  have HA := Lib.hid ha
  have bi : (b : Int) ≤ 4611686018427387904 := by omega
  clear hB T ha
  go_enter Tryd.func11, Tryd.ntmps11
  go_wp2
  go_loopw [0, 5] (fun x v wr => CsRel a b B w x v wr) (fun x _ _ => b - (intOf x).toNat)
  case atStart => exact ⟨a, [], HA.out, rfl, rfl, World.ownsRow_nil _ _ _ _, Below.refl _ _⟩
  case round =>
    obtain ⟨y, pre, hy, rfl, hpre, hown, hbel⟩ := hrel
    have hBw : B ≤ wr.heap.size := by rw [← HB.out]; exact hbel.size
    have hl : pre.length ≤ 131 := by
      rw [← hpre, List.length_append] at hlen
      omega
    by_cases hlt : y < b
    · have yi : (y : Int) < (b : Int) := by omega
      obtain ⟨s1, s2, s3, _⟩ := spanH_spec hlt hb
      have go := spanL_go hlt hb
      have L := Low_any (x := y) (by omega) wr (TT.out.below (by rw [HB.out]; exact hbel))
      have H := High_any (x := b - y) (by omega)
      have l1 := (lenN_spec (x := b - y) (by omega) (by omega)).1
      have eh : spanH y b = min (tzN y) (lenN (b - y) - 1) := rfl
      have DV := div_min (x := y) (by omega) (spanH y b)
      rw [show min (spanH y b) 64 = spanH y b by omega] at DV
      have SH := shl1 (c := spanH y b) (by omega)
      have mi : min ((tzN y : Nat) : Int) ((lenN (b - y) : Int) - 1) = (spanH y b : Int) := by rw [eh]; omega
      have sub : IntKind.u64.wrap ((b : Int) - (y : Int)) = ((b - y : Nat) : Int) := by rw [wrap_u64]; omega
      have P := Lib.hid hpre
      have GO := Lib.hid go
      have fits : (y : Int) + ((2 ^ spanH y b : Nat) : Int) ≤ 4611686018427387904 := by omega
      have p0 := Nat.two_pow_pos (spanH y b)
      have P0 := Lib.hid (show y + 2 ^ spanH y b ≤ b ∧ 0 < 2 ^ spanH y b by omega)
      have WP := Lib.hid (show IntKind.u64.wrap ((y : Int) + IntKind.u64.wrap (2 ^ spanH y b)) = ((y + 2 ^ spanH y b : Nat) : Int) by rw [cast_pow, wrap_u64, wrap_u64]; omega)
      generalize hd : b - y = d at *
      generalize lenN d = ln at *
      generalize tzN y = t at *
      have qle := Nat.div_le_self y (2 ^ spanH y b)
      have qi : ((y / 2 ^ spanH y b : Nat) : Int) ≤ 4611686018427387904 := by omega
      clear qle
      generalize hh : spanH y b = h at *
      have hi62 : (h : Int) ≤ 62 := by omega
      generalize hq : y / 2 ^ h = q at *
      generalize hp : 2 ^ h = p at *
      have HP := Lib.hid hp
      clear hpre go eh s1 s2 p0 hlen hy hd hh hq hp
      go_wp2_with fail
      refine L.mono ?_
      rintro e w' ⟨rfl, rfl⟩
      go_wp2_with fail
      refine (H _).mono ?_
      rintro e w' ⟨rfl, rfl⟩
      go_wp2_with (at_builtin; refine wpList_append_own _ rfl (.tmp 19) (.tmp 26) 23 rfl B 28 i0 (.agg #[.int .u8 0, .int .u64 0]) 2 16 Tryd.underlying23 hi hz0 hz1 hz2 rfl (by decide) _ _ _ rfl (hown.alloc _) ⟨wr.heap.size, 0, none⟩ 1 1 [.int .u8 (h : Int), .int .u64 (q : Int)] rfl rfl (cell_new2 _ _ _ _) (two_ints _ _ _ _) (by unfold maxLen; omega) (by omega) (by simp; omega) ?_; intro v' w2 hown2 hg2 _)
      go_roundw
      case rel =>
        refine ⟨y + p, pre ++ [(h, q)], by have := P0.out; omega, by rw [WP.out], ?_, ?_, (hbel.alloc hBw _).grown hg2 (by simp; omega) fun k hk => (hown.lt k hk).1⟩
        · rw [← P.out, GO.out]; simp
        · rw [spotC_append, List.length_append]
          exact hown2
      case measure =>
        have := P0.out
        simp only [WP.out, intOf, Int.toNat_natCast]; omega
    · have yi : decide ((y : Int) < (b : Int)) = false := decide_eq_false (by omega)
      have yn : b ≤ y := by omega
      have e : spanL a b = pre := by rw [← hpre, spanL_stop hlt, List.append_nil]
      have E := Lib.hid e
      clear hpre e hy hlen hlt
      go_wp2
      go_ret
      refine ⟨_, rfl, ?_, hbel⟩
      rw [E.out]
      exact hown
end Go.Proofs.YtpbahbigimnboaaDoor
