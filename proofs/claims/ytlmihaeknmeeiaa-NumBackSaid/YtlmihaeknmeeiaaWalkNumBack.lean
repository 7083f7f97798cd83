/-
  massiflaw1.NumBack: the walk and its plain law.
-/
import Derived.Test.YtlmihaeknmeeiaaApp
namespace Go.Proofs.Ytlmihaeknmeeiaa
open Go.RowKit
set_option linter.unusedVariables false

theorem own_made0 {w : World} {B : Nat} (hB : B ≤ w.heap.size) : (w.alloc (.cells #[] 5 (0, 0))).ownsRow B 5 1 (.slice (some ⟨w.heap.size, 0, none⟩) 0 0) 0 [] :=
  ⟨rfl, .inr ⟨w.heap.size, 0, #[], rfl, hB, heap_alloc_new _ _, Nat.le_refl _, Nat.zero_le _, rfl, rfl⟩⟩

theorem big_back : ∀ (n : Nat) (l : List Nat), l.length = n → Bytes l → bigL (bigV l) n = l := by
  intro n l hl hB
  apply List.ext_getElem?
  intro j
  by_cases hj : j < n
  · have e : bigV l = bigV (l.take n) := by rw [List.take_of_length_le (by omega)]
    have key : ∀ k, j < k → k ≤ n → bigV (l.take k) / 256 ^ (k - 1 - j) % 256 = l[j]'(by omega) := by
      intro k
      induction k with
      | zero => intro h; omega
      | succ k ih =>
        intro h1 h2
        have hg : l[k]? = some (l[k]'(by omega)) := List.getElem?_eq_getElem (by omega)
        have hc := hB.at hg
        rw [bigV_take hg]
        by_cases hjk : j = k
        · subst hjk
          simp only [show j + 1 - 1 - j = 0 by omega, Nat.pow_zero, Nat.div_one]
          omega
        · have := ih (by omega) (by omega)
          rw [show k + 1 - 1 - j = (k - 1 - j) + 1 by omega, Nat.pow_succ, Nat.mul_comm (256 ^ _), ← Nat.div_div_eq_div_mul, show (256 * bigV (l.take k) + l[k]'(by omega)) / 256 = bigV (l.take k) by omega]
          exact this
    have := key n hj (Nat.le_refl _)
    simp only [bigL, List.getElem?_map, List.getElem?_range hj, Option.map_some]
    rw [e, this, List.getElem?_eq_getElem (by omega)]
  · rw [List.getElem?_eq_none (by rw [bigL_length]; omega), List.getElem?_eq_none (by omega)]

theorem walkNumBack (v0 : Value) (l0 : List Nat) (w : World) (s0 : SliceOf u8c w v0 l0) (y0 : Bytes l0) (z0 : l0.length ≤ 140737488351232) :
    Calls Try.prog 10 #[v0] w fun e w' => e = .returned (.bool true) ∧ Below w.heap.size w w' := by
  have s0' := s0
  obtain ⟨a, ca, rfl, _⟩ := s0'
  have hB0 : (w.alloc (.cells #[] 5 (0, 0))).ownsRow w.heap.size 5 1 (.slice (some ⟨w.heap.size, 0, none⟩) 0 0) 0 [] := own_made0 (Nat.le_refl _)
  by_cases h8 : 8 < l0.length
  all_goals
    go_enter Try.func10, Try.ntmps10
    go_wp2_with (at_builtin; refine app_u8 (.tmp 8) (.tmp 9) rfl rfl w.heap.size _ 0 [] rfl hB0 _ l0 rfl (s0.below ((Below.refl _ _).alloc (Nat.le_refl _) _)) (by omega) (by simp) ?_; intro v' w1 hown hg)
    have hb : Below w.heap.size w w1 := ((Below.refl _ _).alloc (Nat.le_refl _) _).grown hg (by simp) (fun k hk => (hB0.lt k hk).1)
    have hs : SliceOf u8c w1 v' l0 := SliceOf.of_own hown (by rw [List.nil_append]; rfl)
    clear hown hg
  · refine (FromBig_long _ hs h8).mono ?_
    rintro e w' ⟨rfl, rfl⟩
    have i8 : (8 : Int) < (l0.length : Int) := by omega
    go_wp2_with fail
    refine (awake_any _).mono ?_
    rintro e w4 ⟨rfl, hb4⟩
    go_wp2
    go_ret
    exact ⟨rfl, hb.trans (hb4.mono hb.size)⟩
  · have i8 : (l0.length : Int) ≤ 8 := by omega
    have hlt := bigV_lt y0 l0.length
    rw [List.take_length] at hlt
    have hp : 256 ^ l0.length ≤ 256 ^ 8 := pow256 (by omega)
    have h88 : (256 : Nat) ^ 8 = 18446744073709551616 := by decide
    have hx : bigV l0 < 18446744073709551616 := by omega
    have BK := Lib.hid (big_back l0.length l0 rfl y0)
    clear hp h88
    refine (FromBig_any _ hs y0 (by omega)).mono ?_
    rintro e w' ⟨rfl, rfl⟩
    go_wp2_with fail
    refine (Big_fits hx (by omega) hlt _).mono ?_
    rintro e w2 ⟨v2, rfl, hown2, hb2⟩
    rw [BK.out] at hown2
    have hs2 : SliceOf u8c w2 v2 l0 := SliceOf.of_own hown2 rfl
    have hb' : Below w.heap.size w w2 := hb.trans (hb2.mono hb.size)
    clear hlt hown2
    go_wp2_with fail
    refine (same_any _ hs2 (s0.below hb')).mono ?_
    rintro e w3 ⟨rfl, hb3⟩
    rw [decide_eq_true (rfl : l0 = l0)]
    go_wp2_with fail
    refine (awake_any _).mono ?_
    rintro e w4 ⟨rfl, hb4⟩
    go_wp2
    go_ret
    have q1 := hb'.size
    have q2 := hb3.size
    exact ⟨rfl, hb'.trans ((hb3.mono q1).trans (hb4.mono (by omega)))⟩
end Go.Proofs.Ytlmihaeknmeeiaa
